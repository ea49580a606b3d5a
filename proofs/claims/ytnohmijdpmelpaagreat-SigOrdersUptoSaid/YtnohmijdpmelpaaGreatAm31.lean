/- The abstract machine: a drawn region in which two operations may not change places: both orders are shown. -/
import Derived.Test.YtnohmijdpmelpaaGreatAm30
set_option linter.unusedSectionVars false
set_option linter.unusedVariables false
set_option linter.unusedSimpArgs false
namespace Go.Am
open Go
variable [Tab]
variable {P : Program} {n k0 : Nat} {fr fr1 fr' : Fr} {H H1 : Heap} {f : FuncId} {S : List Item} {res : AV} {H' : Heap} {ops : Array Oper} {K : List (Nat × CallK)} {nt : List Nat}

/-- as 'commOK', for the order 'can', 'p' ahead of 'q' in it -/
def splits : List Nat → List Nat → (List Nat → Nat → Bool) → Bool
  | _, [], _ => true
  | A, i :: B, f => f A i && splits (A ++ [i]) B f
def commE (K : List (Nat × CallK)) (nt : List Nat) (ops : Array Oper) (can : List Nat) (p q : Nat) : Bool :=
  let cl := cloL ops.toList []
  lower ops.toList 0 && can.all (fun i => Nat.blt i ops.size) && (List.range ops.size).all (fun i => can.contains i) && decide can.Nodup &&
    splits [] can fun A i => A.all fun j => (cl.getD i []).contains j || (Nat.beq j p && Nat.beq i q) || indepAt K nt ops j i
theorem splits_spec : ∀ {A B : List Nat} {f : List Nat → Nat → Bool}, splits A B f = true → ∀ C i D, B = C ++ i :: D → f (A ++ C) i = true
  | A, [], f, _, C, i, D, e => by simp at e
  | A, x :: B, f, h, [], i, D, e => by
    simp only [splits, Bool.and_eq_true] at h
    simp only [List.nil_append, List.cons.injEq] at e
    obtain ⟨rfl, rfl⟩ := e
    simpa using h.1
  | A, x :: B, f, h, y :: C, i, D, e => by
    simp only [splits, Bool.and_eq_true] at h
    simp only [List.cons_append, List.cons.injEq] at e
    obtain ⟨rfl, rfl⟩ := e
    have := splits_spec h.2 C i D rfl
    simpa using this
/-- an order in which 'p' stands ahead of 'q' -/
inductive LinE (ops : Array Oper) (p q : Nat) : (Nat → Bool) → List Nat → Prop where
  | nil (listed : Nat → Bool) : (∀ i o, ops[i]? = some o → listed i = false → ∃ j, j ∈ dirs o ∧ listed j = false) → LinE ops p q listed []
  | cons (listed : Nat → Bool) (i : Nat) (o : Oper) (is : List Nat) : ops[i]? = some o → listed i = false → (∀ j, j ∈ dirs o → listed j = true) → (i = q → listed p = true) → LinE ops p q (fun j => Nat.beq j i || listed j) is → LinE ops p q listed (i :: is)
theorem Lin.ofListed {p q : Nat} {listed : Nat → Bool} {is : List Nat} (h : Lin ops listed is) : listed p = true → LinE ops p q listed is := by
  induction h with
  | nil listed hn => exact fun _ => .nil _ hn
  | cons listed i o is ho hl hd hlin ih => exact fun hp => .cons _ _ _ _ ho hl hd (fun _ => hp) (ih (by simp [hp]))
theorem Lin.ofDone {p q : Nat} {listed : Nat → Bool} {is : List Nat} (h : Lin ops listed is) : listed q = true → LinE ops p q listed is := by
  induction h with
  | nil listed hn => exact fun _ => .nil _ hn
  | cons listed i o is ho hl hd hlin ih => exact fun hp => .cons _ _ _ _ ho hl hd (fun e => by subst e; rw [hp] at hl; cases hl) (ih (by simp [hp]))
theorem Lin.either (p q : Nat) (hpq : p ≠ q) {listed : Nat → Bool} {is : List Nat} (h : Lin ops listed is) : LinE ops p q listed is ∨ LinE ops q p listed is := by
  induction h with
  | nil listed hn => exact .inl (.nil _ hn)
  | cons listed i o is ho hl hd hlin ih =>
    by_cases hp : i = p
    · subst hp
      exact .inl (.cons _ _ _ _ ho hl hd (fun e => absurd e hpq) (hlin.ofListed (by simp [Nat.beq_refl])))
    · by_cases hq : i = q
      · subst hq
        exact .inr (.cons _ _ _ _ ho hl hd (fun e => absurd e.symm hpq) (hlin.ofListed (by simp [Nat.beq_refl])))
      · rcases ih with h | h
        · exact .inl (.cons _ _ _ _ ho hl hd (fun e => absurd e hq) h)
        · exact .inr (.cons _ _ _ _ ho hl hd (fun e => absurd e hp) h)
theorem LinE.ev {can : List Nat} {p q : Nat} (hk : commE K nt ops can p q = true) {listed : Nat → Bool} {is : List Nat} (h : LinE ops p q listed is) :
    ∀ {fr : Fr} {H : Heap}, Closed ops listed → Ev P n K nt ops (can.filter fun i => !listed i) fr H fr' H' → Ev P n K nt ops is fr H fr' H' := by
  simp only [commE, Bool.and_eq_true, List.all_eq_true, List.mem_range, decide_eq_true_eq] at hk
  obtain ⟨⟨⟨⟨hlow, hlt⟩, hall⟩, hnd⟩, hk⟩ := hk
  induction h with
  | nil listed hn =>
    intro fr H hc he
    have : (can.filter fun i => !listed i) = [] := by
      have key : ∀ m i, i < m → i < ops.size → listed i = true := by
        intro m
        induction m with
        | zero => intro i hi; omega
        | succ m ih =>
          intro i hi hs
          cases hl : listed i with
          | true => rfl
          | false =>
            obtain ⟨j, hj, hl2⟩ := hn i ops[i] (Array.getElem?_eq_getElem hs) hl
            have hlt := lower_spec ops.toList 0 hlow i ops[i] (by simp [hs]) j hj
            rw [ih j (by omega) (by omega)] at hl2
            cases hl2
      rw [List.filter_eq_nil_iff]
      intro i hi
      rw [key (i + 1) i (by omega) (Nat.le_of_ble_eq_true (hlt i hi))]
      simp
    rw [this] at he
    exact he
  | cons listed i o is ho hl hd hpq hlin ih =>
    intro fr H hc he
    have his := (Array.getElem?_eq_some_iff.1 ho).1
    have hmem : i ∈ can := by simpa using hall i his
    obtain ⟨A, B, hAB⟩ := List.append_of_mem hmem
    have hnd2 := hnd
    rw [hAB, List.nodup_append] at hnd2
    have hiA : i ∉ A := fun h => hnd2.2.2 i h i (by simp) rfl
    have hiB : i ∉ B := (List.nodup_cons.1 hnd2.2.1).1
    have hu : (can.filter fun j => !listed j) = (A.filter fun j => !listed j) ++ i :: (B.filter fun j => !listed j) := by
      rw [hAB, List.filter_append, List.filter_cons]; simp [hl]
    have hne : ∀ j, j ≠ i → Nat.beq j i = false := fun j hj => by
      cases hq : Nat.beq j i with
      | true => exact absurd (Nat.eq_of_beq_eq_true hq) hj
      | false => rfl
    have hu2 : (can.filter fun j => !(Nat.beq j i || listed j)) = (A.filter fun j => !listed j) ++ (B.filter fun j => !listed j) := by
      rw [hAB, List.filter_append, List.filter_cons]
      simp only [Nat.beq_refl, Bool.true_or, Bool.not_true]
      congr 1
      · refine List.filter_congr fun j hj => ?_
        rw [hne j (fun e => hiA (e ▸ hj))]; simp
      · refine List.filter_congr fun j hj => ?_
        rw [hne j (fun e => hiB (e ▸ hj))]; simp
    have hclo := cloL_spec hc ops.toList [] (fun q o h => by simpa using h) (fun k l o e => by simp at e)
    rw [hu] at he
    have hsp := splits_spec hk A i B hAB
    simp only [List.nil_append, List.all_eq_true] at hsp
    have he2 := Ev.front (fun a ha => by
      rw [List.mem_filter] at ha
      have := hsp a ha.1
      rw [Bool.or_eq_true, Bool.or_eq_true] at this
      rcases this with (h1 | h1) | h1
      · exfalso
        rw [List.getD_eq_getElem?_getD] at h1
        cases e : (cloL ops.toList [])[i]? with
        | none => rw [e] at h1; simp at h1
        | some l =>
          rw [e] at h1
          have := hclo i l o e ho hd a (by simpa using h1)
          rw [this] at ha
          simp at ha
      · exfalso
        rw [Bool.and_eq_true] at h1
        have e1 := Nat.eq_of_beq_eq_true h1.1
        have e2 := Nat.eq_of_beq_eq_true h1.2
        have := hpq e2
        rw [e1, this] at ha
        simp at ha
      · exact h1) he
    obtain ⟨o', c, fr1, H1, e1, e2, e3, e4⟩ := Ev.cons.1 he2
    refine Ev.cons.2 ⟨o', c, fr1, H1, e1, e2, e3, ih ?_ (by rw [hu2]; exact e4)⟩
    intro k ok hk1 hk2 j hj
    rw [Bool.or_eq_true] at hk2 ⊢
    rcases hk2 with hk2 | hk2
    · have := Nat.eq_of_beq_eq_true hk2
      subst this
      rw [ho] at hk1; simp only [Option.some.injEq] at hk1; subst hk1
      exact .inr (hd j hj)
    · exact .inr (hc k ok hk1 hk2 j hj)
/-- a drawn region, two operations of which are shown in both orders -/
theorem Runs.regD2 {id : Nat} (p q : Nat) (can : List Nat) (K : List (Nat × CallK)) (nt : List Nat) {c c2 : Prop} {fr2 : Fr} {H2 : Heap} (hm : P.follows .mixedOrders = true) (hpq : Nat.beq p q = false)
    (hk : commE K nt ops (List.range ops.size) p q = true) (hk2 : commE K nt ops can q p = true)
    (h : Am.evR P n K nt ops (List.range ops.size) fr H = some (c, fr1, H1)) (h2 : Am.evR P n K nt ops can fr H = some (c2, fr2, H2)) (hc : c) (hc2 : c2)
    (hr : Runs P f n k0 S fr1 H1 res H') (hr2 : Runs P f n k0 S fr2 H2 res H') : Runs P f n k0 (.code (.region id ops true) :: S) fr H res H' := by
  intro b a w G ρ h1' h2' h3 hkk h4 cs
  have hst := step_region_draw (P := P) (id := id) (ops := ops) (b := b) (a := a) (k := S) (cs := cs) (w := w)
  rw [hm] at hst
  simp only [Region.schedule, Bool.true_or, if_true] at hst
  generalize w.tape w.drawn (.order b.fn id) = t at hst
  have hl := go_lin ops ops.size t (Array.replicate ops.size false) (by simp) (by
    unfold unl
    exact Nat.le_trans (List.length_filter_le ..) (by simp))
  have hcl : Closed ops fun i => (Array.replicate ops.size false).getD i false := fun k o _ e => by
    simp [Array.getD_eq_getD_getElem?, Array.getElem?_replicate] at e
    split at e <;> simp at e
  have hu : ∀ can : List Nat, can.all (fun i => Nat.blt i ops.size) = true → (can.filter fun i => !(Array.replicate ops.size false).getD i false) = can := by
    intro can hcan
    rw [List.filter_eq_self]
    intro i hi
    have := Nat.le_of_ble_eq_true ((List.all_eq_true.1 hcan) i hi)
    simp [Array.getD_eq_getD_getElem?, Array.getElem?_replicate]
    split <;> rfl
  have hall : ∀ can p q, commE K nt ops can p q = true → can.all (fun i => Nat.blt i ops.size) = true := by
    intro can p q h
    simp only [commE, Bool.and_eq_true] at h
    exact h.1.1.1.2
  have hR : Runs P f n k0 (.inRegion ops (Region.linearise .any ops t) :: S) fr H res H' := by
    rcases hl.either p q (fun e => by subst e; rw [Nat.beq_refl] at hpq; cases hpq) with hl | hl
    · obtain ⟨c', e1, e2⟩ := hl.ev (P := P) (n := n) (fr := fr) (H := H) (fr' := fr1) (H' := H1) hk hcl (by rw [hu _ (hall _ _ _ hk)]; exact ⟨c, h, hc⟩)
      exact Runs.rest K nt e1 e2 hr
    · obtain ⟨c', e1, e2⟩ := hl.ev (P := P) (n := n) (fr := fr) (H := H) (fr' := fr2) (H' := H2) hk2 hcl (by rw [hu _ (hall _ _ _ hk2)]; exact ⟨c2, h2, hc2⟩)
      exact Runs.rest K nt e1 e2 hr2
  obtain ⟨v, w', G', ρ', frm, s1, s2, s3, s4⟩ := hR b a w.drew G ρ h1' h2' h3 hkk ⟨h4.size, fun i => ⟨(h4.fr i).1.keep (drew_keeps G w), (h4.fr i).2⟩, drew_br h4.br, drew_wi h4.wi⟩ cs
  exact ⟨v, w', G', ρ', frm, .head hst s1, s2, s3, (drew_trans G w).trans s4.1, s4.2⟩
end Go.Am
