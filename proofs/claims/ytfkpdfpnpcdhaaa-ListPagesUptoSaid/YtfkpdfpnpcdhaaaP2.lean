/- the plain law of pages behind pages. -/
import Derived.Test.YtfkpdfpnpcdhaaaP1
namespace Go.Proofs.LP
open Go
set_option linter.unusedVariables false
set_option linter.unusedSimpArgs false
set_option linter.unusedSectionVars false
/-- strictly ahead -/
def Lt (a b : List UInt8) : Prop := Le a b ∧ a ≠ b
/-- unlike names alone, and no empty one -/
def unlS (u : List (List UInt8)) (x : List UInt8) : List (List UInt8) := if x ≠ [] ∧ u.getLast? ≠ some x then u ++ [x] else u
def unlL (l : List (List UInt8)) : List (List UInt8) := l.foldl unlS []
theorem unlL_snoc (l : List (List UInt8)) (x : List UInt8) : unlL (l ++ [x]) = unlS (unlL l) x := by simp [unlL]
theorem unlS_len (u : List (List UInt8)) (x : List UInt8) : (unlS u x).length ≤ u.length + 1 := by unfold unlS; split <;> simp
structure Unl (l u : List (List UInt8)) : Prop where
  len : u.length ≤ l.length
  mem : ∀ y, y ∈ u → y ∈ l
  ne : ∀ y, y ∈ u → y ≠ []
  lt : u.Pairwise Lt
theorem unl_step {l u : List (List UInt8)} {x : List UInt8} (h : Unl l u) (hx : ∀ y, y ∈ l → Le y x) : Unl (l ++ [x]) (unlS u x) := by
  unfold unlS
  split
  · rename_i c
    refine ⟨by simp [h.len], fun y hy => ?_, fun y hy => ?_, ?_⟩
    · rcases List.mem_append.1 hy with hy | hy
      · exact List.mem_append_left _ (h.mem y hy)
      · exact List.mem_append_right _ hy
    · rcases List.mem_append.1 hy with hy | hy
      · exact h.ne y hy
      · rw [List.mem_singleton] at hy; subst hy; exact c.1
    · rw [List.pairwise_append]
      refine ⟨h.lt, List.pairwise_singleton _ _, fun a ha b hb => ?_⟩
      rw [List.mem_singleton] at hb; subst hb
      refine ⟨hx a (h.mem a ha), fun e => ?_⟩
      subst e
      rcases List.eq_nil_or_concat u with rfl | ⟨zs, z, rfl⟩
      · simp at ha
      · rw [List.concat_eq_append] at *
        have hz : (zs ++ [z]).getLast? = some z := by rw [List.getLast?_append]; rfl
        rcases List.mem_append.1 ha with ha | ha
        · have h1 := (List.pairwise_append.1 h.lt).2.2 a ha z (by simp)
          have h2 := hx z (h.mem z (by simp))
          exact h1.2 (le_as h1.1 h2)
        · rw [List.mem_singleton] at ha; subst ha; exact c.2 hz
  · exact ⟨by simp; exact Nat.le_succ_of_le h.len, fun y hy => List.mem_append_left _ (h.mem y hy), h.ne, h.lt⟩
theorem unl_of {l : List (List UInt8)} (hs : Sor l) : ∀ k, k ≤ l.length → Unl (l.take k) (unlL (l.take k))
  | 0, _ => ⟨by simp [unlL], fun y hy => by simp [unlL] at hy, fun y hy => by simp [unlL] at hy, by simp [unlL]⟩
  | k + 1, hk => by
    have ih := unl_of hs k (by omega)
    have e : l.take (k + 1) = l.take k ++ [l.getD k []] := by rw [List.take_add_one, List.getD_eq_getElem?_getD, List.getElem?_eq_getElem (show k < l.length by omega)]; rfl
    rw [e, unlL_snoc]
    refine unl_step ih fun y hy => ?_
    obtain ⟨i, hi, rfl⟩ := List.mem_iff_getElem.1 hy
    rw [List.getElem_take]
    simp only [List.length_take] at hi
    have := hs i k (by omega) (by omega)
    rwa [List.getD_eq_getElem?_getD, List.getElem?_eq_getElem (show i < l.length by omega)] at this
theorem unl_all {l : List (List UInt8)} (hs : Sor l) : Unl l (unlL l) := by simpa using unl_of hs l.length (Nat.le_refl _)
theorem sor_lt {u : List (List UInt8)} (h : u.Pairwise Lt) : Sor u := sor_of (h.imp fun h => h.1)
section
variable (p d : List UInt8) (l : List (List UInt8))
/-- names are told strictly in order -/
theorem strict_R (mar : List UInt8) (hl : l.Pairwise Lt) : ∀ {k : Nat}, k ≤ l.length → (uptoR p d l mar k).Pairwise fun x y => Lt x.nm y.nm
  | 0, _ => List.Pairwise.nil
  | k + 1, hk => by
    have hs := sor_lt hl
    have ih := strict_R mar hl (k := k) (by omega)
    have ht := told_R p d l mar hs (k := k) (by omega)
    have hlt : ∀ t, t < k → Lt (l.getD t []) (l.getD k []) := fun t h => by
      have := List.pairwise_iff_getElem.1 hl t k (by omega) (by omega) h
      rwa [List.getD_eq_getElem?_getD, List.getElem?_eq_getElem (show t < l.length by omega), List.getD_eq_getElem?_getD, List.getElem?_eq_getElem (show k < l.length by omega)]
    simp only [uptoR]
    generalize uptoR p d l mar k = ys at *
    have snoc : ∀ x : Ti, x.nm = key p d (l.getD k []) → (∀ y, y ∈ ys → y.nm ≠ x.nm) → (ys ++ [x]).Pairwise fun x y => Lt x.nm y.nm := fun x e1 e2 => by
      rw [List.pairwise_append]
      refine ⟨ih, List.pairwise_singleton _ _, fun a ha b hb => ?_⟩
      rw [List.mem_singleton] at hb; subst hb
      obtain ⟨t, t1, t2, _⟩ := ht.keys a ha
      refine ⟨?_, e2 a ha⟩
      rw [t2, e1]
      exact key_le p d (hs t k (by omega) (by omega))
    -- who bears a group's name is that group
    have grp : ∀ g, (∃ n, (groupF n p d).2 = true ∧ g = (groupF n p d).1) → ∀ y, y ∈ ys → y.nm = g → y.g = true := fun g ⟨n, hn, hg⟩ y hy e => by
      obtain ⟨t, t1, t2, t3⟩ := ht.keys y hy
      rw [t3]
      by_cases c : (groupF (l.getD t []) p d).2 = true
      · exact c
      · rw [key, if_neg c] at t2
        have h2 := (group_pre hn).2 (l.getD t []) (by rw [← hg, ← e, t2]; exact List.prefix_refl _)
        rw [h2]
    unfold stpR
    split
    · split
      · rename_i c2
        split
        · exact ih
        · rename_i c3
          refine snoc _ (by rw [key, if_pos c2]) fun y hy e => c3 ?_
          have e' : y.nm = (groupF (l.getD k []) p d).1 := e
          rw [Bool.or_eq_true]
          refine .inr ?_
          -- the last one bears the name too
          rcases List.eq_nil_or_concat ys with rfl | ⟨zs, z, rfl⟩
          · simp at hy
          · rw [List.concat_eq_append] at *
            have hz : z.nm = (groupF (l.getD k []) p d).1 := by
              rcases List.mem_append.1 hy with hy | hy
              · have h1 := (List.pairwise_append.1 ih).2.2 y hy z (by simp)
                obtain ⟨t, t1, t2, _⟩ := ht.keys z (by simp)
                have h2 : Le z.nm (groupF (l.getD k []) p d).1 := by
                  have := key_le p d (hs t k (by omega) (by omega))
                  rw [← t2] at this
                  rw [key, if_pos c2] at this
                  exact this
                rw [← e'] at h2 ⊢
                exact le_as h2 h1.1
              · rw [List.mem_singleton] at hy; subst hy; exact e'
            have hg := grp _ ⟨_, c2, rfl⟩ z (by simp) hz
            rw [lastIs_snoc, hg, hz]; simp
      · rename_i c2
        split
        · exact ih
        · refine snoc _ (by rw [key, if_neg c2]) fun y hy e => ?_
          have e' : y.nm = l.getD k [] := e
          obtain ⟨t, t1, t2, t3⟩ := ht.keys y hy
          by_cases c : (groupF (l.getD t []) p d).2 = true
          · rw [key, if_pos c] at t2
            have h2 := (group_pre c).2 (l.getD k []) (by rw [← t2, e']; exact List.prefix_refl _)
            exact c2 (by rw [h2])
          · rw [key, if_neg c] at t2
            exact (hlt t t1).2 (by rw [← t2, e'])
    · exact ih
/-- what is told of which names -/
theorem has_R (mar : List UInt8) : ∀ {k : Nat}, (∀ x, x ∈ uptoR p d l mar k → ∃ t, t < k ∧ Lib.hasPrefix (l.getD t []) p = true ∧ x.nm = key p d (l.getD t []) ∧ x.g = (groupF (l.getD t []) p d).2) ∧
    (∀ t, t < k → Lib.hasPrefix (l.getD t []) p = true → ¬ Le (key p d (l.getD t [])) mar → ∃ x, x ∈ uptoR p d l mar k ∧ x.nm = key p d (l.getD t []) ∧ x.g = (groupF (l.getD t []) p d).2)
  | 0 => ⟨fun x hx => by simp [uptoR] at hx, fun t ht => absurd ht (Nat.not_lt_zero _)⟩
  | k + 1 => by
    obtain ⟨i1, i2⟩ := has_R mar (k := k)
    simp only [uptoR]
    generalize uptoR p d l mar k = ys at *
    have same : (Lib.hasPrefix (l.getD k []) p = true → ¬ Le (key p d (l.getD k [])) mar → ∃ x, x ∈ ys ∧ x.nm = key p d (l.getD k []) ∧ x.g = (groupF (l.getD k []) p d).2) →
        (∀ x, x ∈ ys → ∃ t, t < k + 1 ∧ Lib.hasPrefix (l.getD t []) p = true ∧ x.nm = key p d (l.getD t []) ∧ x.g = (groupF (l.getD t []) p d).2) ∧
        (∀ t, t < k + 1 → Lib.hasPrefix (l.getD t []) p = true → ¬ Le (key p d (l.getD t [])) mar → ∃ x, x ∈ ys ∧ x.nm = key p d (l.getD t []) ∧ x.g = (groupF (l.getD t []) p d).2) := fun h => by
      refine ⟨fun x hx => by obtain ⟨t, t1, t2⟩ := i1 x hx; exact ⟨t, by omega, t2⟩, fun t ht h1 h2 => ?_⟩
      rcases Nat.lt_or_ge t k with h3 | h3
      · exact i2 t h3 h1 h2
      · obtain rfl : t = k := by omega
        exact h h1 h2
    have snoc : ∀ x : Ti, Lib.hasPrefix (l.getD k []) p = true → x.nm = key p d (l.getD k []) → x.g = (groupF (l.getD k []) p d).2 →
        (∀ x', x' ∈ ys ++ [x] → ∃ t, t < k + 1 ∧ Lib.hasPrefix (l.getD t []) p = true ∧ x'.nm = key p d (l.getD t []) ∧ x'.g = (groupF (l.getD t []) p d).2) ∧
        (∀ t, t < k + 1 → Lib.hasPrefix (l.getD t []) p = true → ¬ Le (key p d (l.getD t [])) mar → ∃ x', x' ∈ ys ++ [x] ∧ x'.nm = key p d (l.getD t []) ∧ x'.g = (groupF (l.getD t []) p d).2) := fun x h0 e1 e2 => by
      refine ⟨fun x' hx => ?_, fun t ht h1 h2 => ?_⟩
      · rcases List.mem_append.1 hx with hx | hx
        · obtain ⟨t, t1, t2⟩ := i1 x' hx; exact ⟨t, by omega, t2⟩
        · rw [List.mem_singleton] at hx; subst hx; exact ⟨k, by omega, h0, e1, e2⟩
      · rcases Nat.lt_or_ge t k with h3 | h3
        · obtain ⟨x', x1, x2⟩ := i2 t h3 h1 h2; exact ⟨x', List.mem_append_left _ x1, x2⟩
        · obtain rfl : t = k := by omega
          exact ⟨x, by simp, e1, e2⟩
    unfold stpR
    by_cases c1 : Lib.hasPrefix (l.getD k []) p = true
    · rw [if_pos c1]
      by_cases c2 : (groupF (l.getD k []) p d).2 = true
      · rw [if_pos c2]
        have hk : key p d (l.getD k []) = (groupF (l.getD k []) p d).1 := by rw [key, if_pos c2]
        split
        · rename_i c3
          refine same fun _ h => ?_
          rw [Bool.or_eq_true] at c3
          rcases c3 with c3 | c3
          · rw [hk] at h; exact absurd c3 h
          · unfold lastIs at c3
            split at c3
            · rename_i x hx
              have := Bool.and_eq_true_iff.1 c3
              exact ⟨x, List.mem_of_getLast? hx, by rw [hk]; simpa using this.2, by rw [c2]; exact this.1⟩
            · cases c3
        · exact snoc _ c1 hk.symm c2.symm
      · rw [if_neg c2]
        have hk : key p d (l.getD k []) = l.getD k [] := by rw [key, if_neg c2]
        split
        · rename_i c3
          exact same fun _ h => by rw [hk] at h; exact absurd c3 h
        · exact snoc _ c1 hk.symm (Bool.eq_false_iff.2 c2).symm
    · rw [if_neg c1]
      exact same fun h => absurd h c1
end
/-- pages, one behind the other -/
theorem filter_drop {F : List Ti} (hF : F.Pairwise fun x y => Lt x.nm y.nm) {c : Nat} (h1 : 1 ≤ c) (hc : c ≤ F.length) : F.filter (fun x => !sleL x.nm (F.getD (c - 1) ⟨[], false, 0⟩).nm) = F.drop c := by
  have hg : F.getD (c - 1) ⟨[], false, 0⟩ = F[c - 1] := by rw [List.getD_eq_getElem?_getD, List.getElem?_eq_getElem (show c - 1 < F.length by omega)]; rfl
  rw [hg]
  generalize hz : F[c - 1].nm = z
  have hsp : F.filter (fun x => !sleL x.nm z) = (F.take c).filter (fun x => !sleL x.nm z) ++ (F.drop c).filter (fun x => !sleL x.nm z) := by rw [← List.filter_append, List.take_append_drop]
  rw [hsp]
  subst hz
  have e1 : (F.take c).filter (fun x => !sleL x.nm F[c - 1].nm) = [] := by
    rw [List.filter_eq_nil_iff]
    intro x hx
    obtain ⟨i, hi, rfl⟩ := List.mem_iff_getElem.1 hx
    rw [List.getElem_take]
    simp only [List.length_take] at hi
    have : Le F[i].nm F[c - 1].nm := by
      rcases Nat.lt_or_ge i (c - 1) with h | h
      · exact (List.pairwise_iff_getElem.1 hF i (c - 1) (by omega) (by omega) h).1
      · have : i = c - 1 := by omega
        subst this; exact le_rfl' _
    simp [show sleL F[i].nm F[c - 1].nm = true from this]
  have e2 : (F.drop c).filter (fun x => !sleL x.nm F[c - 1].nm) = F.drop c := by
    rw [List.filter_eq_self]
    intro x hx
    obtain ⟨i, hi, rfl⟩ := List.mem_iff_getElem.1 hx
    rw [List.getElem_drop]
    simp only [List.length_drop] at hi
    have := List.pairwise_iff_getElem.1 hF (c - 1) (c + i) (by omega) (by omega) (by omega)
    have hn : sleL F[c + i].nm F[c - 1].nm = false := Bool.eq_false_iff.2 fun h => this.2 (le_as this.1 h)
    simp [hn]
  rw [e1, e2]; rfl
end Go.Proofs.LP
