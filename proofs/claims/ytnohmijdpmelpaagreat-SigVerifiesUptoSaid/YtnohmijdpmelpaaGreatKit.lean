/- Contracts of the machine turned to the walk of the kit; the order of pairs of texts. -/
import Derived.Test.YtnohmijdpmelpaaGreatQry
import Derived.Test.YtnohmijdpmelpaaGreatShelf
set_option maxRecDepth 100000
set_option linter.unusedVariables false
set_option linter.unusedSimpArgs false
set_option linter.unusedSectionVars false
namespace Go.Proofs.YtnohmijdpmelpaaGreat
open Go Go.Am Go.RowKit
/-- cells in a row -/
def SlAt (w : World) (v : Value) (xs : List Value) : Prop := ∃ (base : Option (Nat × Nat)) (cap : Nat), v = .slice (base.map fun p => mkA p.1 p.2) xs.length cap ∧ xs.length ≤ cap ∧ (base = none → cap = 0) ∧
  ∀ b o, base = some (b, o) → ∀ (q : Nat) (u : Value), xs[q]? = some u → w.cell? (mkA b (o + q)) = some u
/-- and in new memory -/
def FrAt (N : Nat) (w : World) (v : Value) (xs : List Value) : Prop := ∃ (base : Option (Nat × Nat)) (cap : Nat), v = .slice (base.map fun p => mkA p.1 p.2) xs.length cap ∧ xs.length ≤ cap ∧ (base = none → cap = 0) ∧
  ∀ b o, base = some (b, o) → ∀ (q : Nat) (u : Value), xs[q]? = some u → w.cell? (mkA b (o + q)) = some u ∧ N ≤ b ∧ w.frozen? (mkA b (o + q)) = false
theorem FrAt.at_ {N w v xs} (h : FrAt N w v xs) : SlAt w v xs := by
  obtain ⟨base, cap, h1, h2, h3, h4⟩ := h
  exact ⟨base, cap, h1, h2, h3, fun b o e q u hu => (h4 b o e q u hu).1⟩
theorem SlAt.below {N w w' v xs} (h : SlAt w v xs) (hN : w.heap.size ≤ N) (hb : Below N w w') : SlAt w' v xs := by
  obtain ⟨base, cap, h1, h2, h3, h4⟩ := h
  refine ⟨base, cap, h1, h2, h3, fun b o e q u hu => ?_⟩
  have := h4 b o e q u hu
  exact (hb.cell (p := mkA b (o + q)) (Nat.lt_of_lt_of_le (World.block_lt_of_cell? _ _ this) hN)).trans this
def sV (l : List (List UInt8)) : List Value := l.map fun s => .string ⟨s.toArray⟩
open Classical in
/-- whose is what, when the call begins: S is lent, all else is nobody's to touch -/
noncomputable def Gx (w : World) (S : Nat → Nat → Prop) : Gh := fun b o => if b < w.heap.size then (if S b o then .frz else .ctx) else .free
theorem Gx_wi {w : World} {S : Nat → Nat → Prop} (hS : ∀ b o v, S b o → w.cell? (mkA b o) = some v → v.oneCell' = true) : WI (Gx w S) w := by
  refine ⟨fun b o h => ?_, fun b o h => ?_, fun b o v h hc => ?_, fun b cs e => by cases e⟩
  · unfold Gx at h; split at h
    · split at h <;> simp [Own.mine] at h
    · simp [Own.mine] at h
  · unfold Gx; rw [if_neg (by omega)]
  · unfold Gx at h
    split at h
    · split at h
      · rename_i hs; exact hS b o v hs hc
      · simp [Own.mine] at h
    · simp [Own.mine] at h
theorem Gx_S {w : World} {S : Nat → Nat → Prop} {b o : Nat} (hb : b < w.heap.size) (h : S b o) : Gx w S b o = .frz := by unfold Gx; rw [if_pos hb, if_pos h]
theorem fn_kit {P : Program} {f : FuncId} {args : List AV} {res : AV} (h : FnOK P f args [] res []) (w : World) (S : Nat → Nat → Prop) (hS : ∀ b o v, S b o → w.cell? (mkA b o) = some v → v.oneCell' = true) (vs : List Value) (hl : vs.length = args.length)
    (ha : ∀ (i : Nat) (c : AV) (v : Value), args[i]? = some c → vs[i]? = some v → VR (Gx w S) w [] c v ∧ nr c = true) :
    Calls P f vs.toArray w fun e w' => ∃ v G', e = .returned v ∧ VR G' w' [] res v ∧ Below w.heap.size w w' ∧ (∀ b o, G' b o = .frz → b < w.heap.size → S b o) ∧ (∀ b o, G' b o = .frz → w.heap.size ≤ b → w'.frozen? (mkA b o) = false) := by
  refine (h w (Gx w S) [] vs hl (fun i c v h1 h2 => ⟨(ha i c v h1 h2).1, SpV_nr (ha i c v h1 h2).2⟩) ⟨rfl, fun id b blk j c h1 => by simp at h1⟩ (Gx_wi hS)).mono ?_
  rintro e w' ⟨v, G', ρ', rfl, ht, hwi, hρ, hbr, hv, _⟩
  have : ρ' = [] := List.eq_nil_of_length_eq_zero (by rw [← hbr.len]; rfl)
  subst this
  refine ⟨v, G', rfl, hv, ⟨ht.os, ht.tape, ht.output, ht.size, fun k hk => ht.blk k hk fun o => ?_⟩, fun b o e hb => ?_, fun b o e hb => ?_⟩
  · unfold Gx; rw [if_pos hk]; split
    · exact .inl rfl
    · exact .inr rfl
  · apply Classical.byContradiction
    intro hs
    have : Gx w S b o = .ctx := by unfold Gx; rw [if_pos hb, if_neg hs]
    rw [ht.ctx b o this] at e; cases e
  · refine ht.fz b o ?_ e
    unfold Gx; rw [if_neg (by omega)]; simp
/-- the cells of a slice -/
def cellsOf (v : Value) (n : Nat) : Nat → Nat → Prop := fun b o => ∃ base cap b' o' q, v = .slice (base.map fun p => mkA p.1 p.2) n cap ∧ base = some (b', o') ∧ q < n ∧ b = b' ∧ o = o' + q
theorem SlAt.cells {w : World} {v : Value} {xs : List Value} (h : SlAt w v xs) {b o : Nat} {u : Value} (hc : cellsOf v xs.length b o) (hu : w.cell? (mkA b o) = some u) : u ∈ xs := by
  obtain ⟨base, cap, h1, h2, h3, h4⟩ := h
  obtain ⟨base', cap', b', o', q, e1, e2, e3, rfl, rfl⟩ := hc
  subst e2
  rw [h1] at e1
  cases base with
  | none => simp at e1
  | some p =>
    obtain ⟨pb, po⟩ := p
    simp only [Option.map_some, Value.slice.injEq, Option.some.injEq, mkA, Addr.mk.injEq] at e1
    obtain ⟨⟨rfl, rfl, _⟩, _⟩ := e1
    have := h4 pb po rfl q _ (List.getElem?_eq_getElem e3)
    rw [hu] at this
    rw [Option.some.inj this]
    exact List.getElem_mem e3
theorem sV_len (l : List (List UInt8)) : (sV l).length = l.length := by simp [sV]
theorem cellSet {w : World} {b o : Nat} {u : Value} (x : Value) (h : w.cell? (mkA b o) = some u) (b' o' : Nat) :
    (w.setCell (mkA b o) x).cell? (mkA b' o') = if b' = b ∧ o' = o then some x else w.cell? (mkA b' o') := by
  unfold World.setCell World.cell? mkA at *
  by_cases hb : b' = b
  · subst hb
    simp only [Array.getElem?_modify, if_true] at *
    cases hc : w.heap[b']? with
    | none => rw [hc] at h; cases h
    | some ob =>
      rw [hc] at h
      simp only [Option.map_some]
      cases ob with
      | cells vs t rg =>
        simp only [true_and, Option.isSome_none, Bool.false_eq_true, if_false] at *
        rw [Array.getElem?_setIfInBounds]
        by_cases ho : o = o'
        · subst ho
          have : o < vs.size := (Array.getElem?_eq_some_iff.1 h).1
          simp [this]
        · rw [if_neg ho, if_neg (fun h => ho h.symm)]
      | _ => cases h
  · simp only [hb, false_and, if_false]
    rw [Array.getElem?_modify, if_neg (fun h => hb h.symm)]
theorem frzSet {w : World} {b o : Nat} (x : Value) (b' o' : Nat) : (w.setCell (mkA b o) x).frozen? (mkA b' o') = w.frozen? (mkA b' o') := by
  unfold World.setCell World.frozen? mkA
  simp only [Array.getElem?_modify]
  by_cases hb : b = b'
  · subst hb
    cases hc : w.heap[b]? with
    | none => simp
    | some ob => cases ob <;> simp
  · simp [hb]
/-- a cell of it is written -/
theorem FrAt.set {N : Nat} {w : World} {b o n cap : Nat} {xs : List Value} (h : FrAt N w (.slice (some (mkA b o)) n cap) xs) {j : Nat} (hj : j < xs.length) (x : Value) :
    FrAt N (w.setCell (mkA b (o + j)) x) (.slice (some (mkA b o)) n cap) (xs.set j x) ∧ N ≤ b := by
  obtain ⟨base, cap', h1, h2, h3, h4⟩ := h
  cases base with
  | none => simp at h1
  | some p =>
    obtain ⟨b', o'⟩ := p
    simp only [Option.map_some, Value.slice.injEq, Option.some.injEq, mkA, Addr.mk.injEq] at h1
    obtain ⟨⟨rfl, rfl, _⟩, rfl, rfl⟩ := h1
    have hcj := h4 b o rfl j _ (List.getElem?_eq_getElem hj)
    refine ⟨⟨some (b, o), cap, by simp [mkA], by simpa using h2, by simp, fun b' o' e q u hu => ?_⟩, hcj.2.1⟩
    cases e
    rw [cellSet x hcj.1, frzSet]
    rw [List.getElem?_set] at hu
    by_cases hq : j = q
    · subst hq
      simp only [if_true] at hu
      rw [if_pos hj] at hu; cases hu
      rw [if_pos ⟨rfl, rfl⟩]
      exact ⟨rfl, hcj.2⟩
    · rw [if_neg hq] at hu
      rw [if_neg (by omega)]
      exact h4 b o rfl q u hu
theorem FrAt.len {N : Nat} {w : World} {v : Value} {xs : List Value} (h : FrAt N w v xs) : ∃ b c, v = .slice b xs.length c := by
  obtain ⟨base, cap', h1, _⟩ := h
  exact ⟨_, _, h1⟩
theorem FrAt.below {N M : Nat} {w w' : World} {v : Value} {xs : List Value} (h : FrAt N w v xs) (hM : w.heap.size ≤ M) (hb : Below M w w') : FrAt N w' v xs := by
  obtain ⟨base, cap, h1, h2, h3, h4⟩ := h
  refine ⟨base, cap, h1, h2, h3, fun b o e q u hu => ?_⟩
  obtain ⟨c1, c2, c3⟩ := h4 b o e q u hu
  have hlt := Nat.lt_of_lt_of_le (World.block_lt_of_cell? _ _ c1) hM
  refine ⟨(hb.cell (p := mkA b (o + q)) hlt).trans c1, c2, ?_⟩
  rw [World.frozen?_of_block (hb.block _ hlt)]; exact c3
end Go.Proofs.YtnohmijdpmelpaaGreat
set_option linter.unusedVariables false
set_option linter.unusedSimpArgs false
namespace Go.Proofs.YtnohmijdpmelpaaGreat
open Go Go.Am
def ltL (a b : List UInt8) : Bool := Op.bytesLess a b
def belowP (a b : Hd) : Bool := ltL a.1 b.1 || (decide (a.1 = b.1) && ltL a.2 b.2)
theorem ltL_nil (a : List UInt8) : ltL a [] = false := by cases a <;> rfl
theorem ltL_nc (y : UInt8) (b : List UInt8) : ltL [] (y :: b) = true := rfl
theorem ltL_cc (x y : UInt8) (a b : List UInt8) : ltL (x :: a) (y :: b) = (decide (x < y) || (x == y && ltL a b)) := rfl
theorem ltL_iff (x y : UInt8) (a b : List UInt8) : ltL (x :: a) (y :: b) = true ↔ x.toNat < y.toNat ∨ (x.toNat = y.toNat ∧ ltL a b = true) := by
  rw [ltL_cc]; simp [UInt8.lt_iff_toNat_lt, UInt8.toNat_inj]
theorem ltL_irr : ∀ a : List UInt8, ltL a a = false
  | [] => rfl
  | x :: a => by
    cases h : ltL (x :: a) (x :: a) with
    | false => rfl
    | true => rw [ltL_iff, ltL_irr a] at h; simp at h
theorem ltL_tr : ∀ {a b c : List UInt8}, ltL a b = true → ltL b c = true → ltL a c = true
  | _, _, [], _, h => by rw [ltL_nil] at h; cases h
  | _, [], _ :: _, h, _ => by rw [ltL_nil] at h; cases h
  | [], _ :: _, _ :: _, _, _ => rfl
  | x :: a, y :: b, z :: c, h1, h2 => by
    rw [ltL_iff] at *
    rcases h1 with h1 | ⟨h1, h1'⟩
    · rcases h2 with h2 | ⟨h2, _⟩ <;> exact .inl (by omega)
    · rcases h2 with h2 | ⟨h2, h2'⟩
      · exact .inl (by omega)
      · exact .inr ⟨by omega, ltL_tr h1' h2'⟩
theorem ltL_tot : ∀ {a b : List UInt8}, ltL a b = false → ltL b a = false → a = b
  | [], [], _, _ => rfl
  | [], _ :: _, h, _ => by rw [ltL_nc] at h; cases h
  | _ :: _, [], _, h => by rw [ltL_nc] at h; cases h
  | x :: a, y :: b, h1, h2 => by
    have g1 : ¬ (x.toNat < y.toNat ∨ (x.toNat = y.toNat ∧ ltL a b = true)) := by rw [← ltL_iff, h1]; exact Bool.false_ne_true
    have g2 : ¬ (y.toNat < x.toNat ∨ (y.toNat = x.toNat ∧ ltL b a = true)) := by rw [← ltL_iff, h2]; exact Bool.false_ne_true
    have e : x.toNat = y.toNat := by omega
    have g3 : ltL a b = false := by cases h : ltL a b with
      | false => rfl
      | true => exact absurd (.inr ⟨e, h⟩) g1
    have g4 : ltL b a = false := by cases h : ltL b a with
      | false => rfl
      | true => exact absurd (.inr ⟨e.symm, h⟩) g2
    rw [UInt8.toNat_inj.1 e, ltL_tot g3 g4]
theorem belP_iff (a b : Hd) : belowP a b = true ↔ ltL a.1 b.1 = true ∨ (a.1 = b.1 ∧ ltL a.2 b.2 = true) := by
  unfold belowP; simp
theorem belP_irr (a : Hd) : belowP a a = false := by unfold belowP; simp [ltL_irr]
theorem belP_tr {a b c : Hd} (h1 : belowP a b = true) (h2 : belowP b c = true) : belowP a c = true := by
  rw [belP_iff] at *
  rcases h1 with h1 | ⟨h1, h1'⟩
  · rcases h2 with h2 | ⟨h2, _⟩
    · exact .inl (ltL_tr h1 h2)
    · exact .inl (h2 ▸ h1)
  · rcases h2 with h2 | ⟨h2, h2'⟩
    · exact .inl (h1 ▸ h2)
    · exact .inr ⟨h1.trans h2, ltL_tr h1' h2'⟩
theorem belP_as {a b : Hd} (h : belowP a b = true) : belowP b a = false := by
  cases h2 : belowP b a with
  | false => rfl
  | true => have := belP_tr h h2; rw [belP_irr] at this; cases this
theorem belP_tot {a b : Hd} (h1 : belowP a b = false) (h2 : belowP b a = false) : a = b := by
  have g1 : ¬ (ltL a.1 b.1 = true ∨ (a.1 = b.1 ∧ ltL a.2 b.2 = true)) := by rw [← belP_iff, h1]; exact Bool.false_ne_true
  have g2 : ¬ (ltL b.1 a.1 = true ∨ (b.1 = a.1 ∧ ltL b.2 a.2 = true)) := by rw [← belP_iff, h2]; exact Bool.false_ne_true
  have f : ∀ {x : Bool}, ¬ x = true → x = false := fun {x} h => by cases x <;> simp at h ⊢
  have e1 : a.1 = b.1 := ltL_tot (f fun h => g1 (.inl h)) (f fun h => g2 (.inl h))
  have e2 : a.2 = b.2 := ltL_tot (f fun h => g1 (.inr ⟨e1, h⟩)) (f fun h => g2 (.inr ⟨e1.symm, h⟩))
  exact Prod.ext e1 e2
theorem belP_ntr {a b c : Hd} (h1 : belowP a b = false) (h2 : belowP b c = false) : belowP a c = false := by
  cases h : belowP a c with
  | false => rfl
  | true =>
    cases h3 : belowP b a with
    | true => rw [belP_tr h3 h] at h2; cases h2
    | false => rw [belP_tot h1 h3] at h; rw [h] at h2; cases h2
/-- rising -/
abbrev Up (a b : Hd) : Prop := belowP b a = false
theorem Up.tr {a b c : Hd} (h1 : Up a b) (h2 : Up b c) : Up a c := belP_ntr h2 h1
/-- there is one rising list of given pairs -/
theorem up_unique {l m : List Hd} (hp : l.Perm m) (h1 : l.Pairwise Up) (h2 : m.Pairwise Up) : l = m :=
  hp.eq_of_pairwise (fun a b _ _ h1 h2 => belP_tot h2 h1) h1 h2
/-- the place of a pair in a rising list, looked for from its end -/
def stpP (l : List Hd) (x : Hd) : Nat → Nat
  | 0 => 0
  | k + 1 => if belowP x (l.getD k ([], [])) = true then stpP l x k else k + 1
theorem stpP_le (l : List Hd) (x : Hd) : ∀ k, stpP l x k ≤ k
  | 0 => Nat.le_refl _
  | k + 1 => by unfold stpP; split; exact Nat.le_succ_of_le (stpP_le l x k); exact Nat.le_refl _
theorem stpP_at (l : List Hd) (x : Hd) : ∀ k, 0 < stpP l x k → belowP x (l.getD (stpP l x k - 1) ([], [])) = false
  | 0, h => by simp [stpP] at h
  | k + 1, h => by
    unfold stpP at *
    split
    · rename_i hb; rw [if_pos hb] at h; exact stpP_at l x k h
    · rename_i hb; simpa using hb
theorem stpP_up (l : List Hd) (x : Hd) : ∀ k j, stpP l x k ≤ j → j < k → belowP x (l.getD j ([], [])) = true
  | 0, j, _, h => by omega
  | k + 1, j, h1, h2 => by
    unfold stpP at h1
    split at h1
    · rename_i hb
      by_cases hj : j = k
      · subst hj; exact hb
      · exact stpP_up l x k j h1 (by omega)
    · omega
def insP (l : List Hd) (x : Hd) : List Hd := l.take (stpP l x l.length) ++ x :: l.drop (stpP l x l.length)
def sortP (l : List Hd) : List Hd := l.foldl insP []
theorem insP_perm (l : List Hd) (x : Hd) : (insP l x).Perm (x :: l) := by
  unfold insP
  refine List.perm_middle.trans ?_
  rw [List.take_append_drop]
theorem sortP_snoc (l : List Hd) (x : Hd) : sortP (l ++ [x]) = insP (sortP l) x := by simp [sortP]
theorem foldP_perm (l : List Hd) : ∀ a : List Hd, (l.foldl insP a).Perm (a ++ l) := by
  induction l with
  | nil => intro a; simp
  | cons x l ih =>
    intro a
    rw [List.foldl_cons]
    refine (ih _).trans ?_
    refine ((insP_perm a x).append_right l).trans ?_
    exact List.perm_middle.symm
theorem sortP_perm (l : List Hd) : (sortP l).Perm l := foldP_perm l []
theorem sortP_len (l : List Hd) : (sortP l).length = l.length := (sortP_perm l).length_eq
theorem pw_get {l : List Hd} (h : l.Pairwise Up) {i j : Nat} (hij : i < j) (hj : j < l.length) : Up (l.getD i ([], [])) (l.getD j ([], [])) := by
  rw [List.getD_eq_getElem?_getD, List.getD_eq_getElem?_getD, List.getElem?_eq_getElem hj, List.getElem?_eq_getElem (by omega)]
  exact List.pairwise_iff_getElem.1 h i j (by omega) hj hij
theorem insP_up {l : List Hd} {x : Hd} (h : l.Pairwise Up) : (insP l x).Pairwise Up := by
  have hs := stpP_le l x l.length
  have ha := stpP_at l x l.length
  have hu := stpP_up l x l.length
  unfold insP
  generalize stpP l x l.length = s at *
  have hb : ∀ a ∈ l.take s, Up a x := fun a ham => by
    obtain ⟨i, hi, rfl⟩ := List.getElem_of_mem ham
    rw [List.length_take] at hi
    have hsp : 0 < s := by omega
    have h0 := ha hsp
    have hai : (l.take s)[i]'(by rw [List.length_take]; exact hi) = l.getD i ([], []) := by
      rw [List.getElem_take, List.getD_eq_getElem?_getD, List.getElem?_eq_getElem (show i < l.length by omega)]; rfl
    rw [hai]
    by_cases hi2 : i = s - 1
    · subst hi2; exact h0
    · exact Up.tr (pw_get h (show i < s - 1 by omega) (by omega)) h0
  have hd : ∀ b ∈ l.drop s, Up x b := fun b hbm => by
    obtain ⟨i, hi, rfl⟩ := List.getElem_of_mem hbm
    rw [List.length_drop] at hi
    have hbi : (l.drop s)[i]'(by rw [List.length_drop]; exact hi) = l.getD (s + i) ([], []) := by
      rw [List.getElem_drop, List.getD_eq_getElem?_getD, List.getElem?_eq_getElem (show s + i < l.length by omega)]; rfl
    rw [hbi]
    exact belP_as (hu (s + i) (by omega) (by omega))
  rw [List.pairwise_append]
  refine ⟨h.sublist (List.take_sublist _ _), ?_, fun a ham b hbm => ?_⟩
  · rw [List.pairwise_cons]
    exact ⟨hd, h.sublist (List.drop_sublist _ _)⟩
  · rcases List.mem_cons.1 hbm with rfl | hbm
    · exact hb a ham
    · exact Up.tr (hb a ham) (hd b hbm)
theorem sortP_up (l : List Hd) : (sortP l).Pairwise Up := by
  have : ∀ (l a : List Hd), a.Pairwise Up → (l.foldl insP a).Pairwise Up := fun l => by
    induction l with
    | nil => intro a h; exact h
    | cons x l ih => intro a h; exact ih _ (insP_up h)
  exact this l [] List.Pairwise.nil
/-- whatever sorts is this sort -/
theorem sorts {l m : List Hd} (hp : m.Perm l) (hm : m.Pairwise Up) : m = sortP l := up_unique (hp.trans (sortP_perm l).symm) hm (sortP_up l)
end Go.Proofs.YtnohmijdpmelpaaGreat
