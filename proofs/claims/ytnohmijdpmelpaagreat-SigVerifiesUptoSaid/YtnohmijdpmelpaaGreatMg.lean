/- The abstract machine: results out of cells, orders of unlike blocks, calls that make blocks, rows that grow. -/
import Derived.Test.YtnohmijdpmelpaaGreatMf
set_option linter.unusedSectionVars false
set_option linter.unusedVariables false
set_option linter.unusedSimpArgs false
namespace Go.Am
open Go
variable [Tab]
variable {P : Program} {n k0 : Nat} {fr : Fr} {H : Heap} {f : FuncId} {S : List Item} {res : AV} {H' : Heap}

theorem BR.takeP {G : Gh} {w : World} {ρ : List Nat} {H : Heap} (h : BR G w ρ H) (m : Nat) (hp : (H.take m).all (·.all pf) = true) : BR G w (ρ.take m) (H.take m) := by
  refine ⟨by simp [h.len], fun id b blk j c h1 h2 h3 => ?_⟩
  have hm : id < m := by
    have := (List.getElem?_eq_some_iff.1 h2).1
    simp at this; omega
  have h2' := h2
  rw [List.getElem?_take, if_pos hm] at h1 h2
  obtain ⟨e, v, k1, k2, k3⟩ := h.cell id b blk j c h1 h2 h3
  refine ⟨e, v, k1, k2.pf ?_ _, k3⟩
  rw [List.all_eq_true] at hp
  have := hp blk (List.mem_of_getElem? h2')
  rw [List.all_eq_true] at this
  exact this c (List.mem_of_getElem? h3)
/-- the result is read, the function's own blocks are left -/
theorem Runs.retD {fn : Func} {v : AV} (hf : P.funcs[f]? = some fn) (h : retE P fr H fn.results.toList = some v) (hn : nr v = true) (hq : pfR v = true) (hr : v = res) (hh : H.take k0 = H') (hp : (H.take k0).all (·.all pf) = true) : Runs P f n k0 (.code .ret :: S) fr H res H' := by
  intro b a w G ρ h1 h2 h3 hk h4 cs
  obtain ⟨v', w', G', ρ', frm, s1, s2, s3, t1, t2, t3, t4, t5, t6⟩ := Runs.retH (S := S) (n := n) (k0 := k0) hf h hn hr rfl b a w G ρ h1 h2 h3 hk h4 cs
  subst hr; subst hh
  refine ⟨v', w', G', ρ'.take k0, frm, s1, s2, s3, t1, t2, by rw [List.take_take, Nat.min_self]; exact t3, t4.takeP k0 hp, t5.pfR hq _, t6⟩
end Go.Am
set_option linter.unusedSectionVars false
set_option linter.unusedVariables false
set_option linter.unusedSimpArgs false
namespace Go.Am
open Go
variable [Tab]
variable {P : Program} {n k0 : Nat} {fr fr1 fr' : Fr} {H H1 : Heap} {f : FuncId} {S : List Item} {res : AV} {H' : Heap} {ops : Array Oper} {K : List (Nat × CallK)} {nt : List Nat}

/-- as 'commOK', for the order 'can', 'p' ahead of 'q' in it -/
def splits : List Nat → List Nat → (List Nat → Nat → Bool) → Bool
  | _, [], _ => true
  | A, i :: B, f => f A i && splits (A ++ [i]) B f
def commE (K : List (Nat × CallK)) (nt : List Nat) (ops : Array Oper) (can : List Nat) (p q : Nat) : Bool :=
  let cl := cloL ops.toList []
  lower ops.toList 0 && can.all (fun i => Nat.blt i ops.size) && (List.range ops.size).all (fun i => can.contains i) && decide can.Nodup &&
    splits [] can fun A i => A.all fun j => (cl.getD i []).contains j || (Nat.beq j p && Nat.beq i q) || indepAt K nt ops j i
theorem splits_spec : ∀ {A B : List Nat} {f : List Nat → Nat → Bool}, splits A B f = true → ∀ C i D, B = C ++ i :: D → f (A ++ C) i = true
  | A, [], f, _, C, i, D, e => by simp at e
  | A, x :: B, f, h, [], i, D, e => by
    simp only [splits, Bool.and_eq_true] at h
    simp only [List.nil_append, List.cons.injEq] at e
    obtain ⟨rfl, rfl⟩ := e
    simpa using h.1
  | A, x :: B, f, h, y :: C, i, D, e => by
    simp only [splits, Bool.and_eq_true] at h
    simp only [List.cons_append, List.cons.injEq] at e
    obtain ⟨rfl, rfl⟩ := e
    have := splits_spec h.2 C i D rfl
    simpa using this
/-- an order in which 'p' stands ahead of 'q' -/
inductive LinE (ops : Array Oper) (p q : Nat) : (Nat → Bool) → List Nat → Prop where
  | nil (listed : Nat → Bool) : (∀ i o, ops[i]? = some o → listed i = false → ∃ j, j ∈ dirs o ∧ listed j = false) → LinE ops p q listed []
  | cons (listed : Nat → Bool) (i : Nat) (o : Oper) (is : List Nat) : ops[i]? = some o → listed i = false → (∀ j, j ∈ dirs o → listed j = true) → (i = q → listed p = true) → LinE ops p q (fun j => Nat.beq j i || listed j) is → LinE ops p q listed (i :: is)
theorem Lin.ofListed {p q : Nat} {listed : Nat → Bool} {is : List Nat} (h : Lin ops listed is) : listed p = true → LinE ops p q listed is := by
  induction h with
  | nil listed hn => exact fun _ => .nil _ hn
  | cons listed i o is ho hl hd hlin ih => exact fun hp => .cons _ _ _ _ ho hl hd (fun _ => hp) (ih (by simp [hp]))
theorem Lin.either (p q : Nat) (hpq : p ≠ q) {listed : Nat → Bool} {is : List Nat} (h : Lin ops listed is) : LinE ops p q listed is ∨ LinE ops q p listed is := by
  induction h with
  | nil listed hn => exact .inl (.nil _ hn)
  | cons listed i o is ho hl hd hlin ih =>
    by_cases hp : i = p
    · subst hp
      exact .inl (.cons _ _ _ _ ho hl hd (fun e => absurd e hpq) (hlin.ofListed (by simp [Nat.beq_refl])))
    · by_cases hq : i = q
      · subst hq
        exact .inr (.cons _ _ _ _ ho hl hd (fun e => absurd e.symm hpq) (hlin.ofListed (by simp [Nat.beq_refl])))
      · rcases ih with h | h
        · exact .inl (.cons _ _ _ _ ho hl hd (fun e => absurd e hq) h)
        · exact .inr (.cons _ _ _ _ ho hl hd (fun e => absurd e hp) h)
theorem LinE.ev {can : List Nat} {p q : Nat} (hk : commE K nt ops can p q = true) {listed : Nat → Bool} {is : List Nat} (h : LinE ops p q listed is) :
    ∀ {fr : Fr} {H : Heap}, Closed ops listed → Ev P n K nt ops (can.filter fun i => !listed i) fr H fr' H' → Ev P n K nt ops is fr H fr' H' := by
  simp only [commE, Bool.and_eq_true, List.all_eq_true, List.mem_range, decide_eq_true_eq] at hk
  obtain ⟨⟨⟨⟨hlow, hlt⟩, hall⟩, hnd⟩, hk⟩ := hk
  induction h with
  | nil listed hn =>
    intro fr H hc he
    have : (can.filter fun i => !listed i) = [] := by
      have key : ∀ m i, i < m → i < ops.size → listed i = true := by
        intro m
        induction m with
        | zero => intro i hi; omega
        | succ m ih =>
          intro i hi hs
          cases hl : listed i with
          | true => rfl
          | false =>
            obtain ⟨j, hj, hl2⟩ := hn i ops[i] (Array.getElem?_eq_getElem hs) hl
            have hlt := lower_spec ops.toList 0 hlow i ops[i] (by simp [hs]) j hj
            rw [ih j (by omega) (by omega)] at hl2
            cases hl2
      rw [List.filter_eq_nil_iff]
      intro i hi
      rw [key (i + 1) i (by omega) (Nat.le_of_ble_eq_true (hlt i hi))]
      simp
    rw [this] at he
    exact he
  | cons listed i o is ho hl hd hpq hlin ih =>
    intro fr H hc he
    have his := (Array.getElem?_eq_some_iff.1 ho).1
    have hmem : i ∈ can := by simpa using hall i his
    obtain ⟨A, B, hAB⟩ := List.append_of_mem hmem
    have hnd2 := hnd
    rw [hAB, List.nodup_append] at hnd2
    have hiA : i ∉ A := fun h => hnd2.2.2 i h i (by simp) rfl
    have hiB : i ∉ B := (List.nodup_cons.1 hnd2.2.1).1
    have hu : (can.filter fun j => !listed j) = (A.filter fun j => !listed j) ++ i :: (B.filter fun j => !listed j) := by
      rw [hAB, List.filter_append, List.filter_cons]; simp [hl]
    have hne : ∀ j, j ≠ i → Nat.beq j i = false := fun j hj => by
      cases hq : Nat.beq j i with
      | true => exact absurd (Nat.eq_of_beq_eq_true hq) hj
      | false => rfl
    have hu2 : (can.filter fun j => !(Nat.beq j i || listed j)) = (A.filter fun j => !listed j) ++ (B.filter fun j => !listed j) := by
      rw [hAB, List.filter_append, List.filter_cons]
      simp only [Nat.beq_refl, Bool.true_or, Bool.not_true]
      congr 1
      · refine List.filter_congr fun j hj => ?_
        rw [hne j (fun e => hiA (e ▸ hj))]; simp
      · refine List.filter_congr fun j hj => ?_
        rw [hne j (fun e => hiB (e ▸ hj))]; simp
    have hclo := cloL_spec hc ops.toList [] (fun q o h => by simpa using h) (fun k l o e => by simp at e)
    rw [hu] at he
    have hsp := splits_spec hk A i B hAB
    simp only [List.nil_append, List.all_eq_true] at hsp
    have he2 := Ev.front (fun a ha => by
      rw [List.mem_filter] at ha
      have := hsp a ha.1
      rw [Bool.or_eq_true, Bool.or_eq_true] at this
      rcases this with (h1 | h1) | h1
      · exfalso
        rw [List.getD_eq_getElem?_getD] at h1
        cases e : (cloL ops.toList [])[i]? with
        | none => rw [e] at h1; simp at h1
        | some l =>
          rw [e] at h1
          have := hclo i l o e ho hd a (by simpa using h1)
          rw [this] at ha
          simp at ha
      · exfalso
        rw [Bool.and_eq_true] at h1
        have e1 := Nat.eq_of_beq_eq_true h1.1
        have e2 := Nat.eq_of_beq_eq_true h1.2
        have := hpq e2
        rw [e1, this] at ha
        simp at ha
      · exact h1) he
    obtain ⟨o', c, fr1, H1, e1, e2, e3, e4⟩ := Ev.cons.1 he2
    refine Ev.cons.2 ⟨o', c, fr1, H1, e1, e2, e3, ih ?_ (by rw [hu2]; exact e4)⟩
    intro k ok hk1 hk2 j hj
    rw [Bool.or_eq_true] at hk2 ⊢
    rcases hk2 with hk2 | hk2
    · have := Nat.eq_of_beq_eq_true hk2
      subst this
      rw [ho] at hk1; simp only [Option.some.injEq] at hk1; subst hk1
      exact .inr (hd j hj)
    · exact .inr (hc k ok hk1 hk2 j hj)
/-- a drawn region, two operations of which are shown in both orders -/
theorem Runs.regD2 {id : Nat} (p q : Nat) (can : List Nat) (K : List (Nat × CallK)) (nt : List Nat) {c c2 : Prop} {fr2 : Fr} {H2 : Heap} (hm : P.follows .mixedOrders = true) (hpq : Nat.beq p q = false)
    (hk : commE K nt ops (List.range ops.size) p q = true) (hk2 : commE K nt ops can q p = true)
    (h : Am.evR P n K nt ops (List.range ops.size) fr H = some (c, fr1, H1)) (h2 : Am.evR P n K nt ops can fr H = some (c2, fr2, H2)) (hc : c) (hc2 : c2)
    (hr : Runs P f n k0 S fr1 H1 res H') (hr2 : Runs P f n k0 S fr2 H2 res H') : Runs P f n k0 (.code (.region id ops true) :: S) fr H res H' := by
  intro b a w G ρ h1' h2' h3 hkk h4 cs
  have hst := step_region_draw (P := P) (id := id) (ops := ops) (b := b) (a := a) (k := S) (cs := cs) (w := w)
  rw [hm] at hst
  simp only [Region.schedule, Bool.true_or, if_true] at hst
  generalize w.tape w.drawn (.order b.fn id) = t at hst
  have hl := go_lin ops ops.size t (Array.replicate ops.size false) (by simp) (by
    unfold unl
    exact Nat.le_trans (List.length_filter_le ..) (by simp))
  have hcl : Closed ops fun i => (Array.replicate ops.size false).getD i false := fun k o _ e => by
    simp [Array.getD_eq_getD_getElem?, Array.getElem?_replicate] at e
    split at e <;> simp at e
  have hu : ∀ can : List Nat, can.all (fun i => Nat.blt i ops.size) = true → (can.filter fun i => !(Array.replicate ops.size false).getD i false) = can := by
    intro can hcan
    rw [List.filter_eq_self]
    intro i hi
    have := Nat.le_of_ble_eq_true ((List.all_eq_true.1 hcan) i hi)
    simp [Array.getD_eq_getD_getElem?, Array.getElem?_replicate]
    split <;> rfl
  have hall : ∀ can p q, commE K nt ops can p q = true → can.all (fun i => Nat.blt i ops.size) = true := by
    intro can p q h
    simp only [commE, Bool.and_eq_true] at h
    exact h.1.1.1.2
  have hR : Runs P f n k0 (.inRegion ops (Region.linearise .any ops t) :: S) fr H res H' := by
    rcases hl.either p q (fun e => by subst e; rw [Nat.beq_refl] at hpq; cases hpq) with hl | hl
    · obtain ⟨c', e1, e2⟩ := hl.ev (P := P) (n := n) (fr := fr) (H := H) (fr' := fr1) (H' := H1) hk hcl (by rw [hu _ (hall _ _ _ hk)]; exact ⟨c, h, hc⟩)
      exact Runs.rest K nt e1 e2 hr
    · obtain ⟨c', e1, e2⟩ := hl.ev (P := P) (n := n) (fr := fr) (H := H) (fr' := fr2) (H' := H2) hk2 hcl (by rw [hu _ (hall _ _ _ hk2)]; exact ⟨c2, h2, hc2⟩)
      exact Runs.rest K nt e1 e2 hr2
  obtain ⟨v, w', G', ρ', frm, s1, s2, s3, s4⟩ := hR b a w.drew G ρ h1' h2' h3 hkk ⟨h4.size, fun i => ⟨(h4.fr i).1.keep (drew_keeps G w), (h4.fr i).2⟩, drew_br h4.br, drew_wi h4.wi⟩ cs
  exact ⟨v, w', G', ρ', frm, .head hst s1, s2, s3, (drew_trans G w).trans s4.1, s4.2⟩
end Go.Am
set_option linter.unusedSectionVars false
set_option linter.unusedVariables false
set_option linter.unusedSimpArgs false
namespace Go.Am
open Go
variable [Tab]
variable {P : Program} {n k0 : Nat} {fr fr1 fr2 fr' : Fr} {H H1 H2 : Heap} {f : FuncId} {S : List Item} {res : AV} {H' : Heap} {ops : Array Oper} {K : List (Nat × CallK)} {nt : List Nat}

def adrB (v : AV) (d : Nat) : Bool := match v with
  | .ptr id _ => Nat.beq id d
  | _ => false
def mk (ck : Option CallK) : Option Nat := match ck with
  | some k => k.L.head?
  | none => none
/-- does an operation touch the block that its mark names? -/
def chk (P : Program) (fr : Fr) (H : Heap) (o : Oper) (ck : Option CallK) : Bool := match mk ck with
  | none => true
  | some d => match o.op with
    | .load t a => adrB (opd P t fr a) d
    | .store t A _ => adrB (opd P t fr A) d
    | .alloc _ => Nat.beq H.length d
    | _ => true
def isRd (o : Oper) : Bool := match o.op with
  | .load .. => true
  | _ => false
def isWr (o : Oper) : Bool := match o.op with
  | .store .. => true
  | .alloc _ => true
  | _ => false
def apart (ck1 ck2 : Option CallK) : Bool := match mk ck1, mk ck2 with
  | some a, some b => !(Nat.beq a b)
  | _, _ => false
theorem adrB_some {v : AV} {d : Nat} (h : adrB v d = true) : ∃ off, v = .ptr d off := by
  cases v <;> simp [adrB] at h
  exact ⟨_, by rw [h]⟩
theorem chk_eq {o : Oper} {ck : Option CallK} (h : ∀ t, t ∈ opSlots o → fr' t = fr t) (hl : H1.length = H.length ∨ hcl ck o ≠ 2 ∨ o.op.operands = #[] ∧ False) : chk P fr' H1 o ck = chk P fr H o ck := by
  have hx := opd_eq (P := P) h
  unfold chk
  split
  · rfl
  · split
    · rename_i e; rw [hx _ (by simp [e, Op.operands])]
    · rename_i e; rw [hx _ (by simp [e, Op.operands])]
    · rename_i e
      rcases hl with hl | hl | hl
      · rw [hl]
      · exact absurd (by simp [hcl, e]) hl
      · exact absurd hl.2 id
    · rfl
theorem mk_some {ck : Option CallK} {d : Nat} (h : mk ck = some d) : ∃ k, ck = some k ∧ hMark ck = true := by
  cases ck with
  | none => simp [mk] at h
  | some k =>
    refine ⟨k, rfl, ?_⟩
    simp only [mk] at h
    unfold hMark
    cases e : k.L with
    | nil => rw [e] at h; simp at h
    | cons => simp [e]
/-- a read of a block hangs on that block alone -/
theorem load_re {tk : Bool} {ck : Option CallK} {o : Oper} {c : Prop} {d : Nat} (hd : mk ck = some d) (ho : isRd o = true) (hc : chk P fr H o ck = true) (hh : H2[d]? = H[d]?) (h : stepE P n tk ck ops o fr H = some (c, fr1, H1)) : H1 = H ∧ stepE P n tk ck ops o fr H2 = some (c, fr1, H2) := by
  obtain ⟨k, rfl, _⟩ := mk_some hd
  unfold isRd at ho
  split at ho
  case h_2 => cases ho
  rename_i t a e
  unfold chk at hc
  rw [hd, e] at hc
  obtain ⟨off, hp⟩ := adrB_some hc
  have key : ∀ X : Heap, evM P tk (some k) fr X o = loadK P fr X t a k.res := fun X => by unfold evM; rw [e]
  have re : loadK P fr H2 t a k.res = reH H2 (loadK P fr H t a k.res) := by
    unfold loadK
    rw [hp]
    simp only [hh]
    split
    · split <;> rfl
    · rfl
  unfold stepE at h ⊢
  rw [key] at h ⊢
  rw [re]
  split at h
  · split at h
    · rename_i e2
      rw [e2]
      simp only [reH]
      have e3 := loadK_h e2
      split at h
      · rw [Bool.cond_eq_ite] at h
        split at h
        · rename_i hlt
          rw [AV.force_eq] at h
          simp only [Option.some.injEq, Prod.mk.injEq] at h
          obtain ⟨rfl, rfl, rfl⟩ := h
          refine ⟨e3.2, ?_⟩
          simp only [hlt, cond_true, AV.force_eq]
        · simp at h
      · simp only [Option.some.injEq, Prod.mk.injEq] at h
        obtain ⟨rfl, rfl, rfl⟩ := h
        exact ⟨e3.2, rfl⟩
    · rename_i e2
      exact absurd (loadK_h e2).1 (by simp)
    · simp at h
  · split at h
    · rw [Bool.cond_eq_ite] at h
      split at h
      · rename_i hlt
        simp only [Option.some.injEq, Prod.mk.injEq] at h
        obtain ⟨rfl, rfl, rfl⟩ := h
        refine ⟨rfl, ?_⟩
        simp only [hlt, cond_true]
      · simp at h
    · simp only [Option.some.injEq, Prod.mk.injEq] at h
      obtain ⟨rfl, rfl, rfl⟩ := h
      exact ⟨rfl, rfl⟩
  · simp at h
/-- a write changes its block alone -/
theorem write_at {tk : Bool} {ck : Option CallK} {o : Oper} {c : Prop} {d : Nat} (hd : mk ck = some d) (ho : isWr o = true) (hc : chk P fr H o ck = true) (h : stepE P n tk ck ops o fr H = some (c, fr1, H1)) (e : Nat) (he : e ≠ d) : H1[e]? = H[e]? := by
  obtain ⟨k, rfl, hm⟩ := mk_some hd
  have hov : ∀ X : Heap, (∀ t a, o.op ≠ .load t a) → evM P tk (some k) fr X o = evN P tk (some k) fr X o := fun X hn => by
    unfold evM
    split
    · rename_i t a _ e1 _; exact absurd e1 (hn _ _)
    · unfold ovr
      rw [hm, Bool.or_true]; rfl
  have key : ∀ (c : Prop) (v : AV) (u : Option (Nat × AV)) (X : Heap), evN P tk (some k) fr H o = some (c, v, u, X) → X[e]? = H[e]? := by
    intro c v u X hx
    unfold isWr at ho
    unfold chk at hc
    rw [hd] at hc
    split at ho
    · rename_i t A x eo
      rw [eo] at hc
      obtain ⟨off, hp⟩ := adrB_some hc
      unfold evN at hx
      rw [eo] at hx
      simp only [storeM, hp] at hx
      rw [AV.force_eq] at hx
      split at hx
      · rw [Bool.cond_eq_ite] at hx
        split at hx
        · split at hx
          · rw [AV.force_eq, setL_eq] at hx
            simp only [Option.some.injEq, Prod.mk.injEq] at hx
            obtain ⟨_, _, _, rfl⟩ := hx
            exact List.getElem?_set_ne (Ne.symm he)
          · rw [setL_eq] at hx
            simp only [Option.some.injEq, Prod.mk.injEq] at hx
            obtain ⟨_, _, _, rfl⟩ := hx
            exact List.getElem?_set_ne (Ne.symm he)
        · simp at hx
      · simp at hx
    · rename_i t eo
      rw [eo] at hc
      have hl := Nat.eq_of_beq_eq_true hc
      unfold evN at hx
      rw [eo] at hx
      simp only at hx
      split at hx
      · rw [cellsF_eq, litLen_eq, snocL_eq] at hx
        simp only [Option.some.injEq, Prod.mk.injEq] at hx
        obtain ⟨_, _, _, rfl⟩ := hx
        rcases Nat.lt_or_ge e H.length with h1 | h1
        · rw [List.getElem?_append_left h1]
        · rw [List.getElem?_eq_none (by rw [List.length_append, List.length_cons, List.length_nil]; omega), List.getElem?_eq_none h1]
      · simp at hx
    · cases ho
  have hn : ∀ t a, o.op ≠ .load t a := fun t a e1 => by unfold isWr at ho; rw [e1] at ho; cases ho
  unfold stepE at h
  rw [hov H hn] at h
  split at h
  · split at h
    · rename_i e2
      split at h
      · rw [Bool.cond_eq_ite] at h
        split at h
        · rw [AV.force_eq] at h
          simp only [Option.some.injEq, Prod.mk.injEq] at h
          obtain ⟨_, _, rfl⟩ := h
          exact key _ _ _ _ e2
        · simp at h
      · simp only [Option.some.injEq, Prod.mk.injEq] at h
        obtain ⟨_, _, rfl⟩ := h
        exact key _ _ _ _ e2
    · rename_i e2
      split at h
      · rw [Bool.cond_eq_ite] at h
        split at h
        · rw [AV.force_eq] at h
          simp only [Option.some.injEq, Prod.mk.injEq] at h
          obtain ⟨_, _, rfl⟩ := h
          exact key _ _ _ _ e2
        · simp at h
      · simp only [Option.some.injEq, Prod.mk.injEq] at h
        obtain ⟨_, _, rfl⟩ := h
        exact key _ _ _ _ e2
    · simp at h
  · split at h
    · rw [Bool.cond_eq_ite] at h
      split at h
      · simp only [Option.some.injEq, Prod.mk.injEq] at h
        obtain ⟨_, _, rfl⟩ := h
        rfl
      · simp at h
    · simp only [Option.some.injEq, Prod.mk.injEq] at h
      obtain ⟨_, _, rfl⟩ := h
      rfl
  · simp at h
def slotsIndep (ops : Array Oper) (tk1 tk2 : Bool) (o1 o2 : Oper) : Bool :=
  (writes tk1 o1).all (fun t => !(slotsOf ops o2).contains t && !(writes tk2 o2).contains t) && (writes tk2 o2).all (fun t => !(slotsOf ops o1).contains t)
def indepX (ops : Array Oper) (tk1 tk2 : Bool) (ck1 ck2 : Option CallK) (o1 o2 : Oper) : Bool :=
  indep ops tk1 tk2 ck1 ck2 o1 o2 || (slotsIndep ops tk1 tk2 o1 o2 && apart ck1 ck2 && (isRd o1 && isWr o2 || isWr o1 && isRd o2))
theorem swapX {tk1 tk2 : Bool} {ck1 ck2 : Option CallK} {o1 o2 : Oper} {c1 c2 : Prop} (hi : indepX ops tk1 tk2 ck1 ck2 o1 o2 = true) (k1 : chk P fr H o1 ck1 = true) (h1 : stepE P n tk1 ck1 ops o1 fr H = some (c1, fr1, H1)) (k2 : chk P fr1 H1 o2 ck2 = true) (h2 : stepE P n tk2 ck2 ops o2 fr1 H1 = some (c2, fr2, H2)) :
    ∃ fr1' H1', chk P fr H o2 ck2 = true ∧ stepE P n tk2 ck2 ops o2 fr H = some (c2, fr1', H1') ∧ chk P fr1' H1' o1 ck1 = true ∧ stepE P n tk1 ck1 ops o1 fr1' H1' = some (c1, fr2, H2) := by
  unfold indepX at hi
  rw [Bool.or_eq_true] at hi
  have slots : ∀ {o : Oper} {t : Nat}, t ∈ opSlots o → t ∈ slotsOf ops o := fun h => by simp [slotsOf, h]
  rcases hi with hi | hi
  · unfold indep at hi
    rw [Bool.or_eq_true] at hi
    rcases hi with hi | hi
    · obtain ⟨d1, a1, rfl, a2, a3, a4⟩ := stepE_spec h1
      obtain ⟨d2, b1, rfl, b2, b3, b4⟩ := stepE_spec h2
      simp only [indep0, Bool.and_eq_true, List.all_eq_true, Bool.not_eq_true', Bool.or_eq_true, List.contains_eq_mem, decide_eq_false_iff_not] at hi
      obtain ⟨⟨i1, i2⟩, i3⟩ := hi
      have hc : apL (apL fr d2) d1 = apL (apL fr d1) d2 := apL_comm (fun p q hp hq e => (i1 p.1 (a1 p hp)).2 (e ▸ b1 q hq)) fr
      have m2 : ∀ t, t ∈ slotsOf ops o2 → fr t = apL fr d1 t := fun t ht => (apL_ne fun p hp e => (i1 p.1 (a1 p hp)).1 (e ▸ ht)).symm
      have m1 : ∀ t, t ∈ slotsOf ops o1 → apL fr d2 t = fr t := fun t ht => apL_ne fun p hp e => i2 p.1 (b1 p hp) (e ▸ ht)
      rcases i3 with (i3 | i3) | i3
      · have z := Nat.eq_of_beq_eq_true i3
        have e1 : H1 = H := a3 (by rw [z]; rfl)
        subst e1
        exact ⟨_, _, by rw [← k2]; exact chk_eq (fun t ht => m2 t (slots ht)) (.inl rfl), b2 fr m2, by rw [← k1]; exact chk_eq (fun t ht => m1 t (slots ht)) (.inr (.inl (by rw [z]; decide))), by rw [a4 z _ H2 m1, hc]⟩
      · have z := Nat.eq_of_beq_eq_true i3
        have e1 : H2 = H1 := b3 (by rw [z]; rfl)
        subst e1
        exact ⟨_, _, by rw [← k2]; exact chk_eq (fun t ht => m2 t (slots ht)) (.inr (.inl (by rw [z]; decide))), b4 z fr H m2, by rw [← k1]; exact chk_eq (fun t ht => m1 t (slots ht)) (.inl rfl), by rw [a2 _ m1, hc]⟩
      · have e1 : H1 = H := a3 i3.1
        subst e1
        have e2 : H2 = H1 := b3 i3.2
        subst e2
        exact ⟨_, _, by rw [← k2]; exact chk_eq (fun t ht => m2 t (slots ht)) (.inl rfl), b2 fr m2, by rw [← k1]; exact chk_eq (fun t ht => m1 t (slots ht)) (.inl rfl), by rw [a2 _ m1, hc]⟩
    · obtain ⟨fr1', H1', s1, s2⟩ := Am.swap (ops := ops) (by unfold indep; rw [hi, Bool.or_true]) h1 h2
      refine ⟨fr1', H1', ?_, s1, ?_, s2⟩
      · unfold indepMv at hi
        split at hi
        · rfl
        · cases hi
      · unfold indepMv at hi
        split at hi
        · rfl
        · cases hi
  · simp only [Bool.and_eq_true, Bool.or_eq_true] at hi
    obtain ⟨⟨i1, i2⟩, i3⟩ := hi
    unfold apart at i2
    split at i2
    case h_2 => cases i2
    rename_i x y ex ey
    have hxy : x ≠ y := fun e => by rw [e, Nat.beq_refl] at i2; cases i2
    obtain ⟨d1, a1, rfl, a2, a3, a4⟩ := stepE_spec h1
    obtain ⟨d2, b1, rfl, b2, b3, b4⟩ := stepE_spec h2
    simp only [slotsIndep, Bool.and_eq_true, List.all_eq_true, Bool.not_eq_true', List.contains_eq_mem, decide_eq_false_iff_not] at i1
    obtain ⟨i1, i4⟩ := i1
    have hc : apL (apL fr d2) d1 = apL (apL fr d1) d2 := apL_comm (fun p q hp hq e => (i1 p.1 (a1 p hp)).2 (e ▸ b1 q hq)) fr
    have m2 : ∀ t, t ∈ slotsOf ops o2 → fr t = apL fr d1 t := fun t ht => (apL_ne fun p hp e => (i1 p.1 (a1 p hp)).1 (e ▸ ht)).symm
    have m1 : ∀ t, t ∈ slotsOf ops o1 → apL fr d2 t = fr t := fun t ht => apL_ne fun p hp e => i4 p.1 (b1 p hp) (e ▸ ht)
    rcases i3 with ⟨r1, w2⟩ | ⟨w1, r2⟩
    · obtain ⟨e1, _⟩ := load_re (H2 := H) ex r1 k1 rfl h1
      subst e1
      have ht := write_at ey w2 k2 h2 x hxy
      have k2' : chk P fr H1 o2 ck2 = true := by rw [← k2]; exact chk_eq (fun t ht => m2 t (slots ht)) (.inl rfl)
      have hz : hcl ck1 o1 ≠ 2 := by
        unfold isRd at r1; unfold hcl
        split at r1
        · rename_i e; rw [e]; exact show (1 : Nat) ≠ 2 by omega
        · cases r1
      have k1' : chk P (apL fr d2) H1 o1 ck1 = true := by rw [← k1]; exact chk_eq (fun t ht => m1 t (slots ht)) (.inl rfl)
      refine ⟨_, _, k2', b2 fr m2, by rw [← k1]; exact chk_eq (fun t ht => m1 t (slots ht)) (.inr (.inl hz)), ?_⟩
      have s := a2 _ m1
      rw [(load_re ex r1 k1' ht s).2, hc]
    · have ht := write_at ex w1 k1 h1 y (Ne.symm hxy)
      have k2' : chk P (apL fr d1) H o2 ck2 = true := by
        have hz : hcl ck2 o2 ≠ 2 := by
          unfold isRd at r2; unfold hcl
          split at r2
          · rename_i e; rw [e]; exact show (1 : Nat) ≠ 2 by omega
          · cases r2
        rw [← k2]; exact chk_eq (fun t _ => rfl) (.inr (.inl hz))
      obtain ⟨e2, s2⟩ := load_re (H2 := H) ey r2 k2 ht.symm h2
      subst e2
      obtain ⟨d3, c1', e3, c2', c3, c4⟩ := stepE_spec s2
      have hz : hcl ck2 o2 ≠ 2 := by
        unfold isRd at r2; unfold hcl
        split at r2
        · rename_i e; rw [e]; exact show (1 : Nat) ≠ 2 by omega
        · cases r2
      refine ⟨apL fr d2, H, by rw [← k2]; exact chk_eq (fun t ht => m2 t (slots ht)) (.inr (.inl hz)), ?_, by rw [← k1]; exact chk_eq (fun t ht => m1 t (slots ht)) (.inl rfl), by rw [a2 _ m1, hc]⟩
      have t2 := b2 fr m2
      exact (load_re ey r2 (by rw [← k2]; exact chk_eq (fun t ht => m2 t (slots ht)) (.inr (.inl hz))) ht.symm t2).2
def evX (P : Program) (n : Nat) (K : List (Nat × CallK)) (nt : List Nat) (ops : Array Oper) : List Nat → Fr → Heap → R3
  | [], fr, H => some (True, fr, H)
  | i :: is, fr, H => match ops[i]? with
    | some o => bif chk P fr H o (ckOf K i) then (match stepE P n (!(nt.contains i)) (ckOf K i) ops o fr H with
      | some (c, fr1, H1) => match evX P n K nt ops is fr1 H1 with
        | some (c2, fr2, H2) => some (c ∧ c2, fr2, H2)
        | none => none
      | none => none) else none
    | none => none
def EvX (P : Program) (n : Nat) (K : List (Nat × CallK)) (nt : List Nat) (ops : Array Oper) (is : List Nat) (fr : Fr) (H : Heap) (fr' : Fr) (H' : Heap) : Prop := ∃ c : Prop, evX P n K nt ops is fr H = some (c, fr', H') ∧ c
theorem EvX.cons {i : Nat} {is : List Nat} : EvX P n K nt ops (i :: is) fr H fr' H' ↔ ∃ (o : Oper) (c : Prop) (fr1 : Fr) (H1 : Heap), ops[i]? = some o ∧ chk P fr H o (ckOf K i) = true ∧ stepE P n (!(nt.contains i)) (ckOf K i) ops o fr H = some (c, fr1, H1) ∧ c ∧ EvX P n K nt ops is fr1 H1 fr' H' := by
  constructor
  · rintro ⟨c, h, hc⟩
    unfold evX at h
    split at h
    · rename_i o ho
      rw [Bool.cond_eq_ite] at h
      split at h
      · rename_i hk
        split at h
        · rename_i c1 fr2 H2 h1
          split at h
          · rename_i c2 fr3 H3 h2
            simp only [Option.some.injEq, Prod.mk.injEq] at h
            obtain ⟨rfl, rfl, rfl⟩ := h
            exact ⟨o, c1, fr2, H2, ho, hk, h1, hc.1, c2, h2, hc.2⟩
          · simp at h
        · simp at h
      · simp at h
    · simp at h
  · rintro ⟨o, c, fr1, H1, h1, hk, h2, hc, c2, h3, hc2⟩
    refine ⟨c ∧ c2, ?_, hc, hc2⟩
    unfold evX
    rw [h1]; simp only
    rw [hk, cond_true, h2]; simp only
    rw [h3]
theorem EvX.ev : ∀ {is : List Nat} {fr : Fr} {H : Heap}, EvX P n K nt ops is fr H fr' H' → Ev P n K nt ops is fr H fr' H'
  | [], fr, H, h => h
  | i :: is, fr, H, h => by
    obtain ⟨o, c, fr1, H1, h1, hk, h2, hc, h3⟩ := EvX.cons.1 h
    exact Ev.cons.2 ⟨o, c, fr1, H1, h1, h2, hc, EvX.ev h3⟩
def indepXat (K : List (Nat × CallK)) (nt : List Nat) (ops : Array Oper) (i j : Nat) : Bool := match ops[i]?, ops[j]? with
  | some o1, some o2 => indepX ops (!(nt.contains i)) (!(nt.contains j)) (ckOf K i) (ckOf K j) o1 o2
  | _, _ => false
theorem EvX.swap {i j : Nat} {is : List Nat} (hi : indepXat K nt ops i j = true) (h : EvX P n K nt ops (i :: j :: is) fr H fr' H') : EvX P n K nt ops (j :: i :: is) fr H fr' H' := by
  obtain ⟨o1, c1, fr1, H1, e1, q1, s1, k1, h⟩ := EvX.cons.1 h
  obtain ⟨o2, c2, fr2, H2, e2, q2, s2, k2, h⟩ := EvX.cons.1 h
  simp only [indepXat, e1, e2] at hi
  obtain ⟨fr1', H1', q3, s3, q4, s4⟩ := swapX hi q1 s1 q2 s2
  exact EvX.cons.2 ⟨o2, c2, fr1', H1', e2, q3, s3, k2, EvX.cons.2 ⟨o1, c1, fr2, H2, e1, q4, s4, k1, h⟩⟩
theorem EvX.front {i : Nat} {B : List Nat} : ∀ {A : List Nat} {fr : Fr} {H : Heap}, (∀ a, a ∈ A → indepXat K nt ops a i = true) → EvX P n K nt ops (A ++ i :: B) fr H fr' H' → EvX P n K nt ops (i :: (A ++ B)) fr H fr' H'
  | [], fr, H, _, h => h
  | a :: A, fr, H, hA, h => by
    obtain ⟨o1, c1, fr1, H1, e1, q1, s1, k1, h⟩ := EvX.cons.1 h
    have h2 := EvX.front (fun b hb => hA b (by simp [hb])) h
    exact EvX.swap (hA a (by simp)) (EvX.cons.2 ⟨o1, c1, fr1, H1, e1, q1, s1, k1, h2⟩)
def commX (K : List (Nat × CallK)) (nt : List Nat) (ops : Array Oper) : Bool :=
  let cl := cloL ops.toList []
  lower ops.toList 0 && (List.range ops.size).all fun i => (List.range i).all fun j => (cl.getD i []).contains j || indepXat K nt ops j i
theorem Lin.evX (hk : commX K nt ops = true) {listed : Nat → Bool} {is : List Nat} (h : Lin ops listed is) : ∀ {fr : Fr} {H : Heap}, Closed ops listed → EvX P n K nt ops (unl ops listed) fr H fr' H' → EvX P n K nt ops is fr H fr' H' := by
  simp only [commX, Bool.and_eq_true, List.all_eq_true, List.mem_range] at hk
  obtain ⟨hlow, hk⟩ := hk
  induction h with
  | nil listed hn =>
    intro fr H hc he
    have : unl ops listed = [] := by
      have key : ∀ m i, i < m → i < ops.size → listed i = true := by
        intro m
        induction m with
        | zero => intro i hi; omega
        | succ m ih =>
          intro i hi hs
          cases hl : listed i with
          | true => rfl
          | false =>
            obtain ⟨j, hj, hl2⟩ := hn i ops[i] (Array.getElem?_eq_getElem hs) hl
            have hlt := lower_spec ops.toList 0 hlow i ops[i] (by simp [hs]) j hj
            rw [ih j (by omega) (by omega)] at hl2
            cases hl2
      unfold unl
      rw [List.filter_eq_nil_iff]
      intro i hi
      rw [key (i + 1) i (by omega) (by simpa using hi)]
      simp
    rw [this] at he
    exact he
  | cons listed i o is ho hl hd hlin ih =>
    intro fr H hc he
    have his := (Array.getElem?_eq_some_iff.1 ho).1
    have hsplit : List.range ops.size = List.range i ++ i :: List.range' (i + 1) (ops.size - (i + 1)) := by
      rw [List.range_eq_range', List.range_eq_range']
      have h1 : List.range' 0 ops.size = List.range' 0 i ++ List.range' (0 + i) (ops.size - i) := by
        rw [List.range'_append_1]; congr; omega
      rw [h1, Nat.zero_add]
      congr 1
      have : ops.size - i = (ops.size - (i + 1)) + 1 := by omega
      rw [this, List.range'_succ]
    have hu : unl ops listed = ((List.range i).filter fun j => !listed j) ++ i :: ((List.range' (i + 1) (ops.size - (i + 1))).filter fun j => !listed j) := by
      unfold unl
      rw [hsplit, List.filter_append, List.filter_cons]
      simp [hl]
    have hu2 : unl ops (fun j => Nat.beq j i || listed j) = ((List.range i).filter fun j => !listed j) ++ ((List.range' (i + 1) (ops.size - (i + 1))).filter fun j => !listed j) := by
      unfold unl
      rw [hsplit, List.filter_append, List.filter_cons]
      have hb : Nat.beq i i = true := Nat.beq_refl i
      simp only [hb, Bool.true_or, Bool.not_true]
      have hne : ∀ j, j ≠ i → Nat.beq j i = false := fun j hj => by
        cases hq : Nat.beq j i with
        | true => exact absurd (Nat.eq_of_beq_eq_true hq) hj
        | false => rfl
      congr 1
      · refine List.filter_congr fun j hj => ?_
        rw [hne j (by have := List.mem_range.1 hj; omega)]; simp
      · refine List.filter_congr fun j hj => ?_
        rw [hne j (by have := List.mem_range'_1.1 hj; omega)]; simp
    have hclo := cloL_spec hc ops.toList [] (fun q o h => by simpa using h) (fun k l o e => by simp at e)
    rw [hu] at he
    have he2 := EvX.front (fun a ha => by
      rw [List.mem_filter, List.mem_range] at ha
      have := hk i his a ha.1
      rw [Bool.or_eq_true] at this
      rcases this with h1 | h1
      · exfalso
        rw [List.getD_eq_getElem?_getD] at h1
        cases e : (cloL ops.toList [])[i]? with
        | none => rw [e] at h1; simp at h1
        | some l =>
          rw [e] at h1
          have := hclo i l o e ho hd a (by simpa using h1)
          rw [this] at ha
          simp at ha
      · exact h1) he
    obtain ⟨o', c, fr1, H1, e1, q1, e2, e3, e4⟩ := EvX.cons.1 he2
    refine EvX.cons.2 ⟨o', c, fr1, H1, e1, q1, e2, e3, ih ?_ (by rw [hu2]; exact e4)⟩
    intro k ok hk1 hk2 j hj
    rw [Bool.or_eq_true] at hk2 ⊢
    rcases hk2 with hk2 | hk2
    · have := Nat.eq_of_beq_eq_true hk2
      subst this
      rw [ho] at hk1; simp only [Option.some.injEq] at hk1; subst hk1
      exact .inr (hd j hj)
    · exact .inr (hc k ok hk1 hk2 j hj)
/-- as Runs.regD: marked reads and writes of blocks that are unlike may change places -/
theorem Runs.regX {id : Nat} (K : List (Nat × CallK)) (nt : List Nat) {c : Prop} (hm : P.follows .mixedOrders = true) (hk : commX K nt ops = true) (h : Am.evX P n K nt ops (List.range ops.size) fr H = some (c, fr1, H1)) (hc : c) (hr : Runs P f n k0 S fr1 H1 res H') :
    Runs P f n k0 (.code (.region id ops true) :: S) fr H res H' := by
  intro b a w G ρ h1 h2 h3 hkk h4 cs
  have hst := step_region_draw (P := P) (id := id) (ops := ops) (b := b) (a := a) (k := S) (cs := cs) (w := w)
  rw [hm] at hst
  simp only [Region.schedule, Bool.true_or, if_true] at hst
  generalize w.tape w.drawn (.order b.fn id) = t at hst
  have hl := go_lin ops ops.size t (Array.replicate ops.size false) (by simp) (by
    unfold unl
    exact Nat.le_trans (List.length_filter_le ..) (by simp))
  have hu : unl ops (fun i => (Array.replicate ops.size false).getD i false) = List.range ops.size := by
    unfold unl
    rw [List.filter_eq_self]
    intro i hi
    simp [Array.getD_eq_getD_getElem?, Array.getElem?_replicate, List.mem_range.1 hi]
  have he := (hl.evX (P := P) (n := n) (fr := fr) (H := H) (fr' := fr1) (H' := H1) hk (fun k o _ e => by
    simp [Array.getD_eq_getD_getElem?, Array.getElem?_replicate] at e
    split at e <;> simp at e) (by rw [hu]; exact ⟨c, h, hc⟩)).ev
  obtain ⟨c', e1, e2⟩ := he
  have hR : Runs P f n k0 (.inRegion ops (Region.linearise .any ops t) :: S) fr H res H' := Runs.rest K nt e1 e2 hr
  obtain ⟨v, w', G', ρ', frm, s1, s2, s3, s4⟩ := hR b a w.drew G ρ h1 h2 h3 hkk ⟨h4.size, fun i => ⟨(h4.fr i).1.keep (drew_keeps G w), (h4.fr i).2⟩, drew_br h4.br, drew_wi h4.wi⟩ cs
  exact ⟨v, w', G', ρ', frm, .head hst s1, s2, s3, (drew_trans G w).trans s4.1, s4.2⟩

/-! ### A call that returns a pointer to what it made -/
def shO (k : Nat) : Own → Own
  | .cell j => .cell (k + j)
  | .spare j q => .spare (k + j) q
  | .frz => .frz
  | .res c => .res c
  | _ => .free
def newG (k : Nat) (G G' : Gh) : Gh := fun b o => bif lentT [] (G b o) then shO k (G' b o) else G b o
theorem shO_mine {k : Nat} {t : Own} (h : (shO k t).mine = true) : t.mine = true := by cases t <;> simp_all [shO, Own.mine]
theorem shO_frz {k : Nat} {t : Own} (h : shO k t = .frz) : t = .frz := by cases t <;> simp_all [shO]
theorem call_new {G G' : Gh} {w w' : World} {ρ : List Nat} {tmps : Array Value} {Hc' : Heap} {v : Value} {ρ' : List Nat} {j off : Nat} {r : AV} (hi : Inv G w ρ n fr H tmps)
    (hp : Post 0 (fun b o => inG [] (G b o)) w [] (.tup [.ptr j off, r]) Hc' v w' G' ρ') (hpf : Hc'.all (·.all pf) = true) (hr : pfA r = true) :
    Trans G w (newG H.length G G') w' ∧ InvV (newG H.length G G') w' (ρ ++ ρ') n fr (H ++ Hc') tmps (.tup [.ptr (H.length + j) off, r]) v := by
  obtain ⟨ht, hw', _, hbr, hvr, hsp⟩ := hp
  have hρl : ρ'.length = Hc'.length := hbr.len.symm
  have hHl : H.length = ρ.length := hi.br.len
  have stay : ∀ b o, lentT [] (G b o) = false → newG H.length G G' b o = G b o ∧ w'.cell? (mkA b o) = w.cell? (mkA b o) ∧ w'.frozen? (mkA b o) = w.frozen? (mkA b o) := by
    intro b o h
    refine ⟨by unfold newG; rw [h]; rfl, ht.cell b o (inG_keep h)⟩
  have hk : Keeps G w (newG H.length G G') w' := fun b o e => by
    obtain ⟨h1, h2, _⟩ := stay b o (by rw [e]; rfl)
    exact ⟨h1.trans e, h2⟩
  have hk2 : Keeps G' w' (newG H.length G G') w' := fun b o e => by
    refine ⟨?_, rfl⟩
    unfold newG
    cases hl : lentT [] (G b o) with
    | true => simp [shO, e]
    | false =>
      rcases inG_keep hl with h | h
      · rw [inG_frz.1 h]; rfl
      · have := ht.ctx b o h
        rw [e] at this; cases this
  have lent : ∀ b o, lentT [] (G b o) = true → newG H.length G G' b o = shO H.length (G' b o) := fun b o h => by unfold newG; rw [h]; rfl
  have isLent : ∀ b o, (G' b o).mine = true → lentT [] (G b o) = true := by
    intro b o h
    cases hl : lentT [] (G b o) with
    | true => rfl
    | false =>
      rcases inG_keep hl with h1 | h1
      · rw [ht.frz b o h1] at h; cases h
      · rw [ht.ctx b o h1] at h; cases h
  have hT : Trans G w (newG H.length G G') w' := by
    refine ⟨ht.os, ht.tape, ht.output, ht.size, fun b o e => (hk b o e).1, fun b o e => ?_, fun b o e => ?_, fun b hb e => ht.blk b hb fun o => ?_, fun b o e1 e2 => ?_⟩
    · exact (stay b o (by rw [e]; rfl)).1.trans e
    · exact (stay b o (by rcases e with e | e <;> rw [e] <;> rfl)).2
    · rcases e o with e | e
      · exact .inl (by simp only [e]; rfl)
      · exact .inr (by simp only [e]; rfl)
    · cases hl : lentT [] (G b o) with
      | false => rw [(stay b o hl).1] at e2; exact absurd e2 e1
      | true =>
        rw [lent b o hl] at e2
        exact ht.fz b o (fun e => e1 (inG_frz.1 e)) (shO_frz e2)
  refine ⟨hT, ⟨hi.size, fun i => ⟨((hi.fr i).1.keep hk).app, (hi.fr i).2.map fun c b o e => ?_⟩, ⟨by rw [List.length_append, List.length_append]; omega, fun id b blk q c h1 h2 h3 => ?_⟩, ⟨fun b o e => ?_, fun b o e => ?_, fun b o v e1 e2 => ?_, hi.wi.tab.trans hT⟩⟩, ?_, ?_⟩
  · exact (stay b o (by rw [e]; rfl)).1.trans e
  · rcases Nat.lt_or_ge id H.length with hid | hid
    · rw [List.getElem?_append_left (by omega)] at h1
      rw [List.getElem?_append_left hid] at h2
      obtain ⟨k1, v, k2, k3, k4⟩ := hi.br.cell id b blk q c h1 h2 h3
      obtain ⟨s1, s2, _⟩ := stay b q (by rw [k1]; rfl)
      exact ⟨s1.trans k1, v, s2.trans k2, (k3.keep hk).app, k4.map fun b o e => (stay b o (by rw [e]; rfl)).1.trans e⟩
    · rw [List.getElem?_append_right (by omega)] at h1
      rw [List.getElem?_append_right hid] at h2
      rw [← hHl] at h1
      obtain ⟨k1, v, k2, k3, k4⟩ := hbr.cell (id - H.length) b blk q c h1 h2 h3
      have hl := isLent b q (by rw [k1]; rfl)
      have hid2 : H.length + (id - H.length) = id := by omega
      refine ⟨by rw [lent b q hl, k1]; simp only [shO, hid2], v, k2, ?_, k4.map fun b o e => by rw [lent b o (isLent b o (by rw [e]; rfl)), e]; simp only [shO, hid2]⟩
      have hpc : pf c = true := by
        simp only [List.all_eq_true] at hpf
        exact hpf _ (List.mem_of_getElem? h2) c (List.mem_of_getElem? h3)
      exact (k3.keep hk2).pf hpc _
  · cases hl : lentT [] (G b o) with
    | false =>
      obtain ⟨s1, s2, s3⟩ := stay b o hl
      rw [s1] at e
      obtain ⟨k1, k2⟩ := hi.wi.own b o e
      exact ⟨by rw [s2]; exact k1, by rw [s3]; exact k2⟩
    | true =>
      rw [lent b o hl] at e
      exact hw'.own b o (shO_mine e)
  · have h1 : G b o = .free := hi.wi.old b o (Nat.le_trans ht.size e)
    have h2 : G' b o = .free := hw'.old b o e
    rw [lent b o (by rw [h1]; rfl), h2]; rfl
  · cases hl : lentT [] (G b o) with
    | false =>
      obtain ⟨s1, s2, s3⟩ := stay b o hl
      rw [s1] at e1
      rw [s2] at e2
      exact hi.wi.one b o v e1 e2
    | true =>
      rw [lent b o hl] at e1
      exact hw'.one b o v (e1.imp shO_frz shO_mine) e2
  · obtain ⟨vs, rfl, hl, hv⟩ := hvr.tup_inv
    refine .tup _ _ vs (by simpa using hl) fun q c x h1 h2 => ?_
    match q, h1 with
    | 0, h1 =>
      simp only [List.getElem?_cons_zero, Option.some.injEq] at h1
      subst h1
      obtain ⟨b, hb, rfl⟩ := (hv 0 _ x rfl h2).ptr_inv
      refine .ptr _ _ _ _ ?_
      rw [List.getElem?_append_right (by omega), hHl, Nat.add_sub_cancel_left]; exact hb
    | 1, h1 =>
      simp only [List.getElem?_cons_succ, List.getElem?_cons_zero, Option.some.injEq] at h1
      subst h1
      exact ((hv 1 _ x rfl h2).keep hk2).pfA hr _
    | q + 2, h1 => simp at h1
  · obtain ⟨vs, rfl, hl, hv⟩ := hvr.tup_inv
    intro c x y h1 h2
    match c, h1 with
    | 0, h1 =>
      simp only [List.getElem?_cons_zero, Option.some.injEq] at h1
      subst h1
      simp [Sp]
    | 1, h1 =>
      simp only [List.getElem?_cons_succ, List.getElem?_cons_zero, Option.some.injEq] at h1
      subst h1
      have := hsp 1 r y rfl h2
      exact this.map fun b o e => by rw [lent b o (isLent b o (by rw [e]; rfl)), e]; rfl
    | q + 2, h1 => simp at h1
theorem OpSem.callNew {o : Oper} {c : Call} {f : Operand} {g : FuncId} {cap args xs : List AV} {Hc' : Heap} {j off : Nat} {r : AV} (ho : o.op = .call c) (hc : c.callee = .value f) (hf : opd P 0 fr f = .fn (.func g) cap) (hg : hasBody P g = true)
    (hx : (c.args.toList.zipIdx.map fun p => opd P (c.argTypes.getD p.2 0) fr p.1) ++ cap = xs) (ha : lendAll [] xs = some args)
    (hfn : FnOK P g args [] (.tup [.ptr j off, r]) Hc') (hpf : Hc'.all (·.all pf) = true) (hr : pfA r = true) : OpSem P o fr H (.tup [.ptr (H.length + j) off, r]) fr (H ++ Hc') := by
  intro b a w G ρ n ops i rest k cs hoi hw hi
  have hvf := VR.opd (P := P) (t := 0) hi.fr f
  rw [hf] at hvf
  obtain ⟨cv, hcv, hcl, hcr⟩ := hvf.fn_inv
  let vs : List Value := c.args.toList.map a.eval ++ cv
  have hxs : ∀ (q : Nat) (x : AV) (v : Value), xs[q]? = some x → vs[q]? = some v → VR G w ρ x v := by
    intro q x v h1 h2
    rw [← hx] at h1
    rcases Nat.lt_or_ge q c.args.toList.length with hq | hq
    · rw [List.getElem?_append_left (by simpa using hq)] at h1
      simp only [vs] at h2
      rw [List.getElem?_append_left (by simpa using hq)] at h2
      rw [List.getElem?_map, Option.map_eq_some_iff] at h1 h2
      obtain ⟨p, hp1, rfl⟩ := h1
      obtain ⟨y, hy, rfl⟩ := h2
      rw [List.getElem?_zipIdx, hy] at hp1
      simp at hp1
      subst hp1
      exact VR.opd hi.fr _
    · rw [List.getElem?_append_right (by simpa using hq)] at h1
      simp only [vs] at h2
      rw [List.getElem?_append_right (by simpa using hq)] at h2
      simp only [List.length_map, List.length_zipIdx] at h1 h2
      exact hcr _ x v h1 h2
  have hxl : vs.length = xs.length := by rw [← hx]; simp [vs, hcl]
  obtain ⟨k1, k2⟩ := lendAll_at ha
  have hcalls := hfn w (fun b o => inG [] (G b o)) [] vs (by omega) (fun q y v h1 h2 => by
    have hq : q < xs.length := by have := (List.getElem?_eq_some_iff.1 h1).1; omega
    have hy := k2 q xs[q] y (List.getElem?_eq_getElem hq) h1
    have hv := (hxs q xs[q] v (List.getElem?_eq_getElem hq) h2).un1
    exact ⟨by have := lendE_vr hy hv (by simp); simpa using this, SpV_nr (lendE_nr hy)⟩) ⟨rfl, fun id b blk j c h1 => by simp at h1⟩ (in_wi [] hi.wi)
  have hEx : (execOp a.eval o).run P w = .ok (.enter g vs.toArray) w := by
    have hcap : (c.args.map a.eval) ++ cv.toArray = vs.toArray := by apply Array.ext'; simp [vs]
    simp only [execOp, ho, resolve, hc, hcv, Deferred.ofValue, Sem.run_bind, Sem.run_pure, Result.andThen_ok, invoke, Array.empty_append, hcap]
    exact run_callFunc hg _
  obtain ⟨v, w', ⟨G', ρ', hpost⟩, hst⟩ := step_call (R := fun v w' => ∃ G' ρ', Post 0 (fun b o => inG [] (G b o)) w [] (.tup [.ptr j off, r]) Hc' v w' G' ρ') (b := b) (k := k) (cs := cs) (rest := rest) hoi hw hEx (hcalls.mono fun e w' ⟨v, G', ρ', h1, h2⟩ => ⟨v, h1, G', ρ', by simpa using h2⟩)
  obtain ⟨r1, r2⟩ := call_new hi hpost hpf hr
  exact ⟨v, w', newG H.length G G', ρ', hst, r1, r2⟩
theorem Imp.bad (a : AV) : Imp a .bad := fun _ _ _ _ _ => ⟨.bad _ _, fun T _ => by simp [Sp]⟩

/-! ### Functions with their receiver -/
theorem OpSem.makeBound {o : Oper} {g : FuncId} {x : Operand} {r : AV} (ho : o.op = .makeFunc (.func g) #[x] #[]) (hx : opd P o.type fr x = r) : OpSem P o fr H (.fn (.via 0 #[] g true) [un r]) fr H := by
  intro b a w G ρ n ops i rest k cs hoi hw hi
  have hv := VR.opd (P := P) (t := o.type) hi.fr x
  rw [hx] at hv
  refine ⟨.func (.func g) #[a.eval x] #[], w, G, [], .one (step_value hoi hw ?_), Trans.refl _ _, by rw [List.append_nil]; exact ⟨hi, .bfn _ _ _ _ hv.un, by simp [SpV, Sp]⟩⟩
  simp [execOp, ho, Instr.makeFunc]
theorem OpSem.callBound {o : Oper} {c : Call} {f : Operand} {g : FuncId} {r : AV} {args xs : List AV} {L : List Nat} {res : AV} {Hc' : Heap} (ho : o.op = .call c) (hc : c.callee = .value f) (hf : opd P 0 fr f = .fn (.via 0 #[] g true) [r]) (hg : hasBody P g = true)
    (hx : r :: (c.args.toList.zipIdx.map fun p => opd P (c.argTypes.getD p.2 0) fr p.1) = xs) (ha : lendAll L xs = some args) (hL : L.Nodup) (hlt : L.all (fun id => Nat.blt id H.length) = true) (hp : (winH L H).all (·.all pf) = true)
    (hfn : FnOK P g args (winH L H) res Hc') (hlen : Nat.beq Hc'.length L.length = true) (hpf : Hc'.all (·.all pf) = true) (hres : pfR res = true) : OpSem P o fr H res fr (backH L H Hc') := by
  have hlen := Nat.eq_of_beq_eq_true hlen
  have hlt : ∀ id ∈ L, id < H.length := fun id hid => Nat.le_of_ble_eq_true ((List.all_eq_true.1 hlt) id hid)
  intro b a w G ρ n ops i rest k cs hoi hw hi
  have hvf := VR.opd (P := P) (t := 0) hi.fr f
  rw [hf] at hvf
  obtain ⟨rv, hcv, hrv⟩ := hvf.bfn_inv
  let vs : List Value := rv :: c.args.toList.map a.eval
  have hxs : ∀ (q : Nat) (x : AV) (v : Value), xs[q]? = some x → vs[q]? = some v → VR G w ρ x v := by
    intro q x v h1 h2
    rw [← hx] at h1
    cases q with
    | zero =>
      simp only [List.getElem?_cons_zero, Option.some.injEq, vs] at h1 h2
      subst h1; subst h2; exact hrv
    | succ q =>
      simp only [List.getElem?_cons_succ, vs] at h1 h2
      rw [List.getElem?_map, Option.map_eq_some_iff] at h1 h2
      obtain ⟨p, hp1, rfl⟩ := h1
      obtain ⟨y, hy, rfl⟩ := h2
      rw [List.getElem?_zipIdx, hy] at hp1
      simp at hp1
      subst hp1
      exact VR.opd hi.fr _
  have hxl : vs.length = xs.length := by rw [← hx]; simp [vs]
  obtain ⟨k1, k2⟩ := lendAll_at ha
  have hlt2 : ∀ id ∈ L, id < ρ.length := fun id h => by rw [← hi.br.len]; exact hlt id h
  have hcalls := hfn w (fun b o => inG L (G b o)) (L.map fun id => ρ.getD id 0) vs (by omega) (fun q y v h1 h2 => by
    have hq : q < xs.length := by have := (List.getElem?_eq_some_iff.1 h1).1; omega
    have hy := k2 q xs[q] y (List.getElem?_eq_getElem hq) h1
    have hv := (hxs q xs[q] v (List.getElem?_eq_getElem hq) h2).un1
    exact ⟨lendE_vr hy hv hlt2, SpV_nr (lendE_nr hy)⟩) (in_br hL hi.br hlt hp) (in_wi L hi.wi)
  have hEx : (execOp a.eval o).run P w = .ok (.enter g vs.toArray) w := by
    have hcap : #[rv] ++ (c.args.map a.eval) ++ #[] = vs.toArray := by apply Array.ext'; simp [vs]
    simp only [execOp, ho, resolve, hc, hcv, Deferred.ofValue, Sem.run_bind, Sem.run_pure, Result.andThen_ok, invoke, hcap]
    exact run_callFunc hg _
  obtain ⟨v, w', ⟨G', ρ', hpost⟩, hst⟩ := step_call (R := fun v w' => ∃ G' ρ', Post L.length (fun b o => inG L (G b o)) w (L.map fun id => ρ.getD id 0) res Hc' v w' G' ρ') (b := b) (k := k) (cs := cs) (rest := rest) hoi hw hEx (hcalls.mono fun e w' ⟨v, G', ρ', h1, h2⟩ => ⟨v, h1, G', ρ', by simpa [winH] using h2⟩)
  obtain ⟨r1, r2⟩ := call_back hL hlt hi hpost hlen hpf hres
  exact ⟨v, w', backG L G G', [], hst, r1, by rw [List.append_nil]; exact r2⟩
end Go.Am
set_option linter.unusedSectionVars false
set_option linter.unusedVariables false
set_option linter.unusedSimpArgs false
namespace Go.Am
open Go
variable [Tab]
variable {P : Program} {n k0 : Nat} {fr fr1 fr2 fr' : Fr} {H H1 H2 : Heap} {f : FuncId} {S : List Item} {res : AV} {H' : Heap} {ops : Array Oper} {o : Oper} {i : Nat} {rest : List Nat}

/-- an operation with one outcome of several -/
def OpSemG (P : Program) (o : Oper) (fr : Fr) (H : Heap) {κ : Type} (Q : κ → Prop) (v : κ → AV) (fr1 : Fr) (H1 : κ → Heap) : Prop :=
  ∀ (b : Frame) (a : Act) (w : World) (G : Gh) (ρ : List Nat) (n : Nat) (ops : Array Oper) (i : Nat) (rest : List Nat) (k : List Item) (cs : List Frame),
    ops[i]? = some o → Region.wanted o (yielded ops a.tmps) = true → Inv G w ρ n fr H a.tmps →
    ∃ c, Q c ∧ ∃ v' w' G' ρ2, Steps P (lone (b.at a (.inRegion ops (i :: rest) :: k)) cs w) (lone (b.at (a.put o.dst v') (.inRegion ops rest :: k)) cs w') ∧
      Trans G w G' w' ∧ InvV G' w' (ρ ++ ρ2) n fr1 (H1 c) a.tmps (v c) v'
theorem Runs.opG {κ : Type} {Q : κ → Prop} {v : κ → AV} {H1 : κ → Heap} (ho : ops[i]? = some o) (hg : gOK ops fr o = some true) (hd : (match o.dst with | some d => Nat.blt d n | none => true) = true) (hs : OpSemG P o fr H Q v fr1 H1)
    (hk : ∀ c, Q c → Runs P f n k0 (.inRegion ops rest :: S) (putF fr1 o.dst (v c)) (H1 c) res H') : Runs P f n k0 (.inRegion ops (i :: rest) :: S) fr H res H' := by
  intro b a w G ρ h1 h2 h3 hkk h4 cs
  obtain ⟨c, hq, v', w', G', ρ2, hst, htr, hiv⟩ := hs b a w G ρ n ops i rest S cs ho (gOK_wanted hg h4.fr) h4
  have hp := hiv.put o.dst (fun d e => by rw [e] at hd; simp [Nat.blt] at hd; omega)
  obtain ⟨v2, w2, G2, ρ3, frm, hst2, e1, e2, ht, hw, hρ, hr⟩ := hk c hq b (a.put o.dst v') w' _ _ h1 h2 (by cases o.dst <;> exact h3) (by simp; omega) hp cs
  exact ⟨v2, w2, G2, ρ3, frm, hst.trans hst2, e1, e2, (htr.trans (putG_trans ..)).trans ht, hw, by rw [hρ, List.take_append_of_le_length hkk], hr⟩
theorem OpSem.toG {v : AV} {H1 : Heap} (h : OpSem P o fr H v fr1 H1) : OpSemG P o fr H (fun _ : Unit => True) (fun _ => v) fr1 (fun _ => H1) := fun b a w G ρ n ops i rest k cs h1 h2 h3 => by
  obtain ⟨v', w', G', ρ2, h4⟩ := h b a w G ρ n ops i rest k cs h1 h2 h3
  exact ⟨(), trivial, v', w', G', ρ2, h4⟩
/-- a variable that is nil -/
theorem OpSem.nilV {x : Operand} (ho : o.op = .assign x ∨ o.op = .move x) (hx : x = .const (.slice none 0 0)) : OpSem P o fr H .nilsl fr H := by
  subst hx
  refine OpSem.same (fun a w G ρ n hi => ⟨.slice none 0 0, ?_, .nilsl _⟩) (fun G t x => by simp [SpV, Sp])
  rcases ho with ho | ho <;> simp [execOp, ho, Act.eval]

/-- the names of a block's cells turn -/
def reCell (id id2 : Nat) : Own → Own
  | .cell i => if i = id then .cell id2 else .cell i
  | x => x
theorem reCell_re (id id2 : Nat) : ReTag (reCell id id2) := by
  constructor
  · intro x; cases x <;> simp [reCell]; split <;> simp
  · intro x; cases x <;> simp [reCell]; split <;> simp
  · rfl
  · intro x; cases x <;> simp [reCell, Own.mine]
/-- a row's cells when it has grown -/
abbrev grown (blk : List AV) (len m sz cap : Nat) (el : Nat → AV) : List AV := blk.take (len * sz) ++ ((cpy m el).map un1 ++ List.replicate ((cap - (len + m)) * sz) .bad)
theorem src_any {P : Program} {G : Gh} {w : World} {ρ : List Nat} {x : AV} {vx : Value} {sz m : Nat} {el : Nat → AV} (hw : WI G w) (hx : VR G w ρ x vx) (hS : srcS x = some (sz, m, el)) : ∃ news, Src P G w sz m el vx news := by
  unfold srcS at hS
  split at hS <;> simp only [Option.some.injEq, Prod.mk.injEq, reduceCtorEq] at hS <;> obtain ⟨e1, e2, e3⟩ := hS
  · subst e3; subst e2; subst e1
    exact src_sl (P := P) hw hx.bs_inv
  · subst e1; subst e2; subst e3
    exact src_sl (P := P) hw hx
theorem cpy_vrs {P : Program} {G : Gh} {w : World} {sz m : Nat} {el : Nat → AV} {vx : Value} {news : List Value} (hs : Src P G w sz m el vx news) (ρ : List Nat) : VRs G w ρ (cpy m el) news := by
  obtain ⟨c1, c2⟩ := cpy_at hs.elsz
  refine ⟨by rw [hs.size, c1], fun q c v h1 h2 => ?_⟩
  have hq := (List.getElem?_eq_some_iff.1 h1).1
  rw [c1] at hq
  have hz : 0 < sz := by
    rcases Nat.eq_zero_or_pos sz with h0 | h0
    · rw [h0] at hq; simp at hq
    · exact h0
  have hi1 : q / sz < m := by rw [Nat.div_lt_iff_lt_mul hz]; exact hq
  have hj := Nat.mod_lt q hz
  have hqe : q / sz * sz + q % sz = q := by rw [Nat.mul_comm]; exact Nat.div_add_mod ..
  have := c2 _ _ hi1 hj
  rw [hqe, h1] at this
  exact (hs.val _ _ c v hi1 this.symm (by rw [hqe]; exact h2)).of_nil
/-- a new block out of values: the first as they are told, the rest unknown -/
theorem newPart {G : Gh} {w : World} {ρ : List Nat} {fr : Fr} {H : Heap} {tmps : Array Value} {cs : List AV} {vs vr : List Value} {e : TypeId} (hi : Inv G w ρ n fr H tmps) (hv : VRs G w ρ cs vs) (h1 : ∀ v, v ∈ vs ++ vr → v.oneCell' = true) (hc : ∀ c, c ∈ cs → ∀ G t v, Sp G t c v) :
    InvV (allocG G w.heap.size (vs ++ vr).length fun _ => .cell H.length) (w.alloc (.cells (vs ++ vr).toArray e)) (ρ ++ [w.heap.size]) n fr (H ++ [cs ++ List.replicate vr.length .bad]) tmps (.ptr H.length 0) (.pointer (some (mkA w.heap.size 0))) := by
  refine newBlock hi ⟨by simp [hv.1], fun q c v h2 h3 => ?_⟩ h1 (fun q c v h2 h3 G t => ?_)
  · rcases Nat.lt_or_ge q cs.length with h | h
    · rw [List.getElem?_append_left h] at h2
      rw [List.getElem?_append_left (by rw [hv.1]; exact h)] at h3
      exact hv.2 q c v h2 h3
    · rw [List.getElem?_append_right h, List.getElem?_replicate] at h2
      split at h2
      · simp at h2; subst h2; exact .bad ..
      · simp at h2
  · rcases Nat.lt_or_ge q cs.length with h | h
    · rw [List.getElem?_append_left h] at h2
      exact hc c (List.mem_of_getElem? h2) G t v
    · rw [List.getElem?_append_right h, List.getElem?_replicate] at h2
      split at h2
      · simp at h2; subst h2; simp [Sp]
      · simp at h2
theorem un1_spare {l : List AV} {c : AV} (h : c ∈ l.map un1) (G : Gh) (t : Own) (v : Value) : Sp G t c v := by
  obtain ⟨z, _, rfl⟩ := List.mem_map.1 h
  exact Sp_un1 ..
/-- the first 'append' to a nil row: a block of its own -/
theorem OpSemG.app0 {tt t2 e by_ sz t m : Nat} {x : Operand} {sx : AV} {el : Nat → AV} (ho : o.op = .call { callee := .builtin .append, args := #[.tmp t, x], argTypes := #[tt, t2] })
    (ht : slT P tt = some (e, sz, by_)) (h2 : isSS P t2 = true) (hD : fr t = .nilsl) (hX : opd P t2 fr x = sx) (hS : srcS sx = some (sz, m, el)) (hm : 0 < m) (hb : m * by_ ≤ 140737488355328) (hl : m ≤ 140737488355328) :
    OpSemG P o fr H (fun cap : Nat => m ≤ cap) (fun cap => .hs H.length 0 m cap) fr (fun cap => H ++ [grown [] 0 m sz cap el]) := by
  intro b a w G ρ n ops i rest k cs hoi hw hi
  obtain ⟨hu, inf, zs, h3, h4, h5, rfl⟩ := slT_some ht
  subst h5
  obtain ⟨z, zv, inf', q1, q2, q3, q4, q5, _⟩ := zero_sound h4
  rw [h3] at q1; simp at q1; subst q1
  have hd := (hi.fr t).1
  rw [hD] at hd
  have hde : a.tmps.getD t undef = .slice none 0 0 := by cases hq : a.tmps.getD t undef <;> rw [hq] at hd <;> cases hd <;> rfl
  have hx := VR.opd (P := P) (t := t2) hi.fr x
  rw [hX] at hx
  obtain ⟨news, hs⟩ := src_any (P := P) hi.wi hx hS
  have hr := run_append_grow (P := P) (w := w) (ty := o.type) (base := none) (len := 0) (cap := 0) (olds := []) hu h3 q2 h2 hs (by omega) (by simpa using hb) (by omega) (by rfl)
  have hid := drew_inv hi
  have hge := grownCap_ge w (0 + m) 0 e
  have hone : ∀ v, v ∈ news ++ (Builtin.zeroCells z.cells (grownCap w (0 + m) 0 e - (0 + m))).toList → v.oneCell' = true := fun v hv => by
    rw [List.mem_append] at hv
    rcases hv with hv | hv
    · exact hs.one v hv
    · have := mem_zeroCells hv
      rw [q3] at this
      exact q5 v (by simpa using this)
  have hvr : VRs G w.drew ρ ((cpy m el).map un1) news := VRs.un1 ⟨(cpy_vrs hs ρ).1, fun q c v h6 h7 => ((cpy_vrs hs ρ).2 q c v h6 h7).keep (drew_keeps _ _)⟩
  have hN := newPart (e := e) hid hvr hone (fun c hc => un1_spare hc)
  have hz : (Builtin.zeroCells z.cells (grownCap w (0 + m) 0 e - (0 + m))).toList.length = (grownCap w (0 + m) 0 e - (0 + m)) * inf.size := by
    rw [Array.length_toList, size_zeroCells, q3]; simp [q4]
  refine ⟨grownCap w (0 + m) 0 e, by omega, _, _, allocG G w.drew.heap.size (news ++ (Builtin.zeroCells z.cells (grownCap w (0 + m) 0 e - (0 + m))).toList).length (fun _ => .cell H.length), [w.heap.size], .one (step_value hoi hw (append_exec ho (by rw [hde]; exact hr))), (drew_trans G w).trans (alloc_trans hid.wi _ _ _), ?_⟩
  have hH : H ++ [(cpy m el).map un1 ++ List.replicate (Builtin.zeroCells z.cells (grownCap w (0 + m) 0 e - (0 + m))).toList.length .bad] = H ++ [grown [] 0 m inf.size (grownCap w (0 + m) 0 e) el] := by
    rw [hz]; simp [grown]
  have hi2 := hN.inv
  rw [hH] at hi2
  have e0 : 0 + m = m := Nat.zero_add m
  refine ⟨by simpa using hi2, ?_, by simp [SpV, Sp]⟩
  rw [e0]
  exact .hs _ _ _ _ _ _ (by rw [hi.br.len]; simp)
/-- less is known of a block -/
theorem Inv.weak {G : Gh} {w : World} {ρ : List Nat} {tmps : Array Value} {id : Nat} {blk blk2 : List AV} (hi : Inv G w ρ n fr H tmps) (hk : H[id]? = some blk) (h : ∀ (j : Nat) (c : AV), blk2[j]? = some c → (c = .bad ∧ j < blk.length) ∨ blk[j]? = some c) : Inv G w ρ n fr (H.set id blk2) tmps := by
  refine ⟨hi.size, hi.fr, ⟨by rw [List.length_set]; exact hi.br.len, fun id' b blk' j c h1 h2 h3 => ?_⟩, hi.wi⟩
  rw [List.getElem?_set] at h2
  split at h2
  · rename_i e
    subst e
    split at h2
    · simp only [Option.some.injEq] at h2
      subst h2
      rcases h j c h3 with ⟨rfl, hj⟩ | h4
      · obtain ⟨e1, v, e2, _, _⟩ := hi.br.cell id b blk j _ h1 hk (List.getElem?_eq_getElem hj)
        exact ⟨e1, v, e2, .bad .., by simp [Sp]⟩
      · exact hi.br.cell id b blk j c h1 hk h4
    · simp at h2
  · exact hi.br.cell id' b blk' j c h1 h2 h3
/-- a block gets another name: the last -/
theorem Inv.rename {G : Gh} {w : World} {ρ : List Nat} {tmps : Array Value} {id b : Nat} {blk : List AV} (hi : Inv G w ρ n fr H tmps) (hr : ρ[id]? = some b) (hk : H[id]? = some blk) (hs : ∀ c, c ∈ blk → ∀ G t v, Sp G t c v) :
    Inv (reG (reCell id H.length) G) w (ρ ++ [b]) n fr (H.set id [] ++ [blk]) tmps := by
  have hre := reCell_re id H.length
  have hkp := hre.keeps G w
  have hlen := hi.br.len
  refine ⟨hi.size, fun i => ⟨((hi.fr i).1.keep hkp).app, (hi.fr i).2.map fun c b o e => by unfold reG; rw [e]; rfl⟩, ⟨by simp [hlen], fun id' b' blk' j c h1 h2 h3 => ?_⟩, hre.wi hi.wi⟩
  rcases Nat.lt_or_ge id' ρ.length with h | h
  · rw [List.getElem?_append_left h] at h1
    rw [List.getElem?_append_left (by simp; omega), List.getElem?_set] at h2
    split at h2
    · split at h2
      · simp only [Option.some.injEq] at h2; subst h2; simp at h3
      · simp at h2
    · rename_i hne
      obtain ⟨e1, v, e2, e3, e4⟩ := hi.br.cell id' b' blk' j c h1 h2 h3
      refine ⟨?_, v, e2, (e3.keep hkp).app, e4.map fun b o e => by unfold reG; rw [e]; rfl⟩
      unfold reG; rw [e1]
      exact if_neg (fun e => hne e.symm)
  · rw [List.getElem?_append_right h] at h1
    rw [List.getElem?_append_right (by simp; omega)] at h2
    have e0 : id' - ρ.length = 0 := by have := (List.getElem?_eq_some_iff.1 h1).1; simp at this; omega
    have hl : H.length = ρ.length := hlen
    rw [e0] at h1
    rw [List.length_set, hl, e0] at h2
    simp only [List.getElem?_cons_zero, Option.some.injEq] at h1 h2
    subst h1; subst h2
    obtain ⟨e1, v, e2, e3, e4⟩ := hi.br.cell id b blk j c hr hk h3
    refine ⟨?_, v, e2, (e3.keep hkp).app, hs c (List.mem_of_getElem? h3) ..⟩
    unfold reG; rw [e1]
    show (if id = id then Own.cell H.length else Own.cell id) = Own.cell id'
    rw [if_pos rfl, show id' = H.length by omega]
/-- 'append' to a row: it lies in a block of a new name -/
theorem OpSemG.appG {tt t2 e by_ sz t m id len cap : Nat} {x : Operand} {sx : AV} {el : Nat → AV} {blk : List AV} (ho : o.op = .call { callee := .builtin .append, args := #[.tmp t, x], argTypes := #[tt, t2] })
    (ht : slT P tt = some (e, sz, by_)) (h2 : isSS P t2 = true) (hD : fr t = .hs id 0 len cap) (hX : opd P t2 fr x = sx) (hS : srcS sx = some (sz, m, el)) (hB : H[id]? = some blk) (hlc : len ≤ cap) (hbl : blk.length = cap * sz) (hn : (blk.take (len * sz)).all nr1 = true)
    (hc : ∀ i, i < m → (el i).cells.all isCell = true) (hb : (len + m) * by_ ≤ 140737488355328) (hl : len + m ≤ 140737488355328) :
    OpSemG P o fr H (fun c : Nat => len + m ≤ c) (fun c => .hs H.length 0 (len + m) c) fr (fun c => H.set id [] ++ [grown blk len m sz c el]) := by
  intro b a w G ρ n ops i rest k cs hoi hw hi
  obtain ⟨hu, inf, zs, h3, h4, h5, rfl⟩ := slT_some ht
  subst h5
  obtain ⟨z, zv, inf', q1, q2, q3, q4, q5, _⟩ := zero_sound h4
  rw [h3] at q1; simp at q1; subst q1
  have hd := (hi.fr t).1
  rw [hD] at hd
  obtain ⟨b', hr, hde⟩ := hd.hs_inv
  have hx := VR.opd (P := P) (t := t2) hi.fr x
  rw [hX] at hx
  obtain ⟨news, hs⟩ := src_any (P := P) hi.wi hx hS
  have hcl : (cpy m el).length = m * inf.size := by rw [← hs.size, (cpy_vrs hs ρ).1]
  have hidl : id < H.length := (List.getElem?_eq_some_iff.1 hB).1
  have hlz : len * inf.size ≤ cap * inf.size := Nat.mul_le_mul_right _ hlc
  have htk : (blk.take (len * inf.size)).length = len * inf.size := by rw [List.length_take, hbl]; exact Nat.min_eq_left hlz
  by_cases hcap : len + m ≤ cap
  · have hle : len * inf.size + m * inf.size ≤ cap * inf.size := by rw [← Nat.add_mul]; exact Nat.mul_le_mul_right _ hcap
    have hcell : ((cpy m el).map un1).all isCell = true := by
      rw [List.all_eq_true]
      intro y hy
      obtain ⟨z, hz, rfl⟩ := List.mem_map.1 hy
      obtain ⟨x, hx, hz⟩ := List.mem_flatMap.1 hz
      obtain ⟨i, hi, rfl⟩ := List.mem_map.1 hx
      have := (List.all_eq_true.1 (hc i (by simpa using hi))) z hz
      cases z <;> simp_all [Am.un1, isCell]
    have hvr : VRs G w ρ ((cpy m el).map un1) news := VRs.un1 (cpy_vrs hs ρ)
    obtain ⟨hwr, hinv⟩ := store_inv (off := len * inf.size) hi hr hB hvr hcell (fun y hy G t v => un1_spare hy G t v) (by simp [hcl]; omega)
    have hrun := run_append_room (P := P) (ty := o.type) hu h3 h2 hs hi.wi hcap (by rw [Nat.zero_add]; exact hwr)
    rw [Nat.zero_add] at hrun
    have hEx : (execOp a.eval o).run P w = .ok (.value (.slice (some (mkA b' 0)) (len + m) cap)) (w.setCells b' (len * inf.size) news) := append_exec ho (by rw [hde]; exact hrun)
    have hB2 : (H.set id (putCells blk (len * inf.size) ((cpy m el).map un1)))[id]? = some (putCells blk (len * inf.size) ((cpy m el).map un1)) := by rw [List.getElem?_set_self hidl]
    have hpc : (putCells blk (len * inf.size) ((cpy m el).map un1)).length = cap * inf.size := by
      unfold putCells
      simp only [List.length_append, htk, List.length_map, hcl, List.length_drop, hbl]; omega
    have hw1 := hinv.weak (blk2 := grown blk len m inf.size cap el) hB2 (fun j c hj => by
      rcases Nat.lt_or_ge j (len * inf.size + m * inf.size) with h | h
      · right
        rw [putCells_at _ _ _ _ (by simp only [List.length_map, hcl, hbl]; omega)]
        unfold grown at hj
        rcases Nat.lt_or_ge j (len * inf.size) with h6 | h6
        · rw [if_neg (by omega)]
          rw [List.getElem?_append_left (by omega), List.getElem?_take, if_pos h6] at hj
          exact hj
        · rw [if_pos ⟨h6, by simp only [List.length_map, hcl]; omega⟩]
          rw [List.getElem?_append_right (by omega), List.getElem?_append_left (by simp only [List.length_map, hcl]; omega), htk] at hj
          exact hj
      · left
        unfold grown at hj
        rw [List.getElem?_append_right (by omega), List.getElem?_append_right (by simp only [List.length_map, hcl]; omega), List.getElem?_replicate] at hj
        split at hj
        · rename_i h7
          simp only [Option.some.injEq] at hj
          refine ⟨hj.symm, ?_⟩
          rw [hpc]
          simp only [List.length_map, hcl, htk, Nat.sub_mul, Nat.add_mul] at h7
          omega
        · simp at hj)
    rw [List.set_set] at hw1
    have hB3 : (H.set id (grown blk len m inf.size cap el))[id]? = some (grown blk len m inf.size cap el) := by rw [List.getElem?_set_self hidl]
    have hfin := hw1.rename hr hB3 (fun c hc G t v => by
      unfold grown at hc
      simp only [List.mem_append] at hc
      rcases hc with hc | hc | hc
      · exact Sp_nr1 (List.all_eq_true.1 hn c hc)
      · exact un1_spare hc G t v
      · rw [List.mem_replicate] at hc; rw [hc.2]; simp [Sp])
    rw [List.set_set, List.length_set] at hfin
    refine ⟨cap, hcap, _, _, _, [b'], .one (step_value hoi hw hEx), (hwr.trans.trans ((clrT_re ..).trans _ _)).trans ((reCell_re ..).trans _ _), hfin, ?_, by simp [SpV, Sp]⟩
    exact .hs _ _ _ _ _ _ (by rw [hi.br.len]; simp)
  · have hid := drew_inv hi
    have hold : ∃ olds : List Value, VRs G w.drew ρ (blk.take (len * inf.size)) olds ∧ (∀ v, v ∈ olds → v.oneCell' = true) ∧ (Builtin.firstCells inf.size len (.slice (some (mkA b' 0)) len cap)).run P w.drew = .ok olds.toArray w.drew := by
      have hcc : ∀ q : Nat, ∃ v, q < len * inf.size → w.cell? (mkA b' q) = some v ∧ VR G w ρ (blk.getD q .bad) v ∧ v.oneCell' = true := by
        intro q
        by_cases hq : q < len * inf.size
        · have h1 : q < blk.length := by omega
          obtain ⟨e1, v, e2, e3, _⟩ := hi.br.cell id b' blk q blk[q] hr hB (List.getElem?_eq_getElem h1)
          exact ⟨v, fun _ => ⟨e2, by simpa [List.getD_eq_getElem?_getD, List.getElem?_eq_getElem h1] using e3, hi.wi.one _ _ _ (.inr (by rw [e1]; rfl)) e2⟩⟩
        · exact ⟨undef, fun h => absurd h hq⟩
      refine ⟨(List.range (len * inf.size)).map fun q => Classical.choose (hcc q), ⟨by simp; omega, fun q c v h6 h7 => ?_⟩, fun v hv => ?_, ?_⟩
      · have hq := (List.getElem?_eq_some_iff.1 h7).1
        simp at hq
        rw [List.getElem?_map, List.getElem?_range hq] at h7
        simp only [Option.map_some, Option.some.injEq] at h7
        rw [List.getElem?_take, if_pos hq] at h6
        have h8 := (Classical.choose_spec (hcc q) hq).2.1
        generalize Classical.choose (hcc q) = y at h8 h7
        rw [List.getD_eq_getElem?_getD, h6] at h8
        rw [← h7]
        exact h8.keep (drew_keeps _ _)
      · obtain ⟨q, hq, rfl⟩ := List.mem_map.1 hv
        exact (Classical.choose_spec (hcc q) (by simpa using hq)).2.2
      · have := run_loadCells (P := P) w.drew (mkA b' 0) (len * inf.size) (fun q => Classical.choose (hcc q)) (fun q hq => by rw [mkA_add, Nat.zero_add]; exact (Classical.choose_spec (hcc q) hq).1)
        simpa [Builtin.firstCells] using this
    obtain ⟨olds, ho1, ho2, ho3⟩ := hold
    have hr2 := run_append_grow (P := P) (w := w) (ty := o.type) (base := some (mkA b' 0)) (len := len) (cap := cap) hu h3 q2 h2 hs (by omega) hb (by omega) ho3
    have hge := grownCap_ge w (len + m) cap e
    have hvr : VRs G w.drew ρ ((cpy m el).map un1) news := VRs.un1 ⟨(cpy_vrs hs ρ).1, fun q c v h6 h7 => ((cpy_vrs hs ρ).2 q c v h6 h7).keep (drew_keeps _ _)⟩
    have hol : olds.length = (blk.take (len * inf.size)).length := ho1.1
    have hvr2 : VRs G w.drew ρ (blk.take (len * inf.size) ++ (cpy m el).map un1) (olds ++ news) := by
      refine ⟨by simp [ho1.1, hvr.1], fun q c v h6 h7 => ?_⟩
      rcases Nat.lt_or_ge q olds.length with h | h
      · rw [List.getElem?_append_left h] at h7
        rw [List.getElem?_append_left (by omega)] at h6
        exact ho1.2 q c v h6 h7
      · rw [List.getElem?_append_right h] at h7
        rw [List.getElem?_append_right (by omega), ← hol] at h6
        exact hvr.2 _ c v h6 h7
    have hone : ∀ v, v ∈ (olds ++ news) ++ (Builtin.zeroCells z.cells (grownCap w (len + m) cap e - (len + m))).toList → v.oneCell' = true := fun v hv => by
      simp only [List.mem_append] at hv
      rcases hv with (hv | hv) | hv
      · exact ho2 v hv
      · exact hs.one v hv
      · have := mem_zeroCells hv
        rw [q3] at this
        exact q5 v (by simpa using this)
    have hN := newPart (e := e) hid hvr2 hone (fun c hc G t v => by
      rw [List.mem_append] at hc
      rcases hc with hc | hc
      · exact Sp_nr1 (List.all_eq_true.1 hn c hc)
      · exact un1_spare hc G t v)
    have hz : (Builtin.zeroCells z.cells (grownCap w (len + m) cap e - (len + m))).toList.length = (grownCap w (len + m) cap e - (len + m)) * inf.size := by
      rw [Array.length_toList, size_zeroCells, q3]; simp [q4]
    have hi2 := hN.inv
    rw [hz] at hi2
    have hB2 : (H ++ [(blk.take (len * inf.size) ++ (cpy m el).map un1) ++ List.replicate ((grownCap w (len + m) cap e - (len + m)) * inf.size) AV.bad])[id]? = some blk := by rw [List.getElem?_append_left hidl]; exact hB
    have hi3 := hi2.weak (blk2 := []) hB2 (fun j c hj => by simp at hj)
    have hH : (H ++ [(blk.take (len * inf.size) ++ (cpy m el).map un1) ++ List.replicate ((grownCap w (len + m) cap e - (len + m)) * inf.size) AV.bad]).set id [] = H.set id [] ++ [grown blk len m inf.size (grownCap w (len + m) cap e) el] := by
      rw [List.set_append, if_pos hidl]; simp [grown]
    rw [hH] at hi3
    have hr3 : (Builtin.append_ #[tt, t2] o.type #[a.tmps.getD t undef, a.eval x]).run P w = .ok (.slice (some (mkA w.heap.size 0)) (len + m) (grownCap w (len + m) cap e)) (w.drew.alloc (.cells ((olds ++ news) ++ (Builtin.zeroCells z.cells (grownCap w (len + m) cap e - (len + m))).toList).toArray e)) := by
      rw [hde, hr2, List.append_assoc]
    refine ⟨grownCap w (len + m) cap e, by omega, _, _, allocG G w.drew.heap.size ((olds ++ news) ++ (Builtin.zeroCells z.cells (grownCap w (len + m) cap e - (len + m))).toList).length (fun _ => .cell H.length), [w.heap.size], .one (step_value hoi hw (append_exec ho hr3)), (drew_trans G w).trans (alloc_trans hid.wi _ _ _), hi3, ?_, by simp [SpV, Sp]⟩
    exact .hs _ _ _ _ _ _ (by rw [hi.br.len]; simp)
/-- a value that names only some blocks -/
def okR (p : Nat → Bool) : AV → Bool
  | .ptr id _ => p id
  | .hs id _ _ _ => p id
  | .iface _ v => okR p v
  | .fn _ cap => cap.all fun c => match c with | .ptr id _ => p id | .hs id _ _ _ => p id | x => pf x
  | .agg cs => cs.all fun c => match c with | .ptr id _ => p id | .hs id _ _ _ => p id | x => pf x
  | .tup cs => cs.all fun c => match c with | .ptr id _ => p id | .hs id _ _ _ => p id | x => pfA x
  | _ => true
theorem VR.okR {p : Nat → Bool} {G : Gh} {w : World} {ρ ρ' : List Nat} {a : AV} {v : Value} (h : VR G w ρ a v) : Am.okR p a = true → (∀ id b : Nat, p id = true → ρ[id]? = some b → ρ'[id]? = some b) → VR G w ρ' a v := by
  induction h with
  | int => exact fun _ _ => .int ..
  | bool => exact fun _ _ => .bool ..
  | str => exact fun _ _ => .str ..
  | sl ρ sz n el own base cap vs hn hb hsz hc hv ih => exact fun _ _ => .sl _ _ _ _ _ _ _ vs hn hb hsz hc hv
  | bs ρ s own v h ih => exact fun _ _ => .bs _ _ _ _ h
  | hs ρ id off len cap b h => exact fun k q => .hs _ _ _ _ _ _ (q _ _ k h)
  | ptr ρ id off b h => exact fun k q => .ptr _ _ _ _ (q _ _ k h)
  | nilp => exact fun _ _ => .nilp _
  | cptr ρ v b o vs hc hv ih => exact fun _ _ => .cptr _ _ _ _ vs hc hv
  | fn ρ f cap vs hl hv ih =>
    intro k q
    simp only [Am.okR, List.all_eq_true] at k
    refine .fn _ _ _ vs hl fun q' c v h1 h2 => ?_
    have hp := k c (List.mem_of_getElem? h1)
    have hh := hv q' c v h1 h2
    cases c with
    | ptr id off => obtain ⟨b, hb, rfl⟩ := hh.ptr_inv; exact .ptr _ _ _ _ (q _ _ hp hb)
    | hs id off l c => obtain ⟨b, hb, rfl⟩ := hh.hs_inv; exact .hs _ _ _ _ _ _ (q _ _ hp hb)
    | _ => exact hh.pf hp _
  | bfn ρ g r v hh ih =>
    intro k q
    simp only [Am.okR, List.all_eq_true] at k
    have hp := k r (by simp)
    refine .bfn _ _ _ _ ?_
    cases r with
    | ptr id off => obtain ⟨b, hb, rfl⟩ := hh.ptr_inv; exact .ptr _ _ _ _ (q _ _ hp hb)
    | hs id off l c => obtain ⟨b, hb, rfl⟩ := hh.hs_inv; exact .hs _ _ _ _ _ _ (q _ _ hp hb)
    | _ => exact hh.pf hp _
  | nilfn => exact fun _ _ => .nilfn _
  | nilsl => exact fun _ _ => .nilsl _
  | iface ρ t v x h ih => exact fun k q => .iface _ _ _ _ (ih k q)
  | nili => exact fun _ _ => .nili _
  | agg ρ cs vs hl hv ih =>
    intro k q
    simp only [Am.okR, List.all_eq_true] at k
    refine .agg _ _ vs hl fun q' c v h1 h2 => ?_
    have hp := k c (List.mem_of_getElem? h1)
    have hh := hv q' c v h1 h2
    cases c with
    | ptr id off => obtain ⟨b, hb, rfl⟩ := hh.ptr_inv; exact .ptr _ _ _ _ (q _ _ hp hb)
    | hs id off l c => obtain ⟨b, hb, rfl⟩ := hh.hs_inv; exact .hs _ _ _ _ _ _ (q _ _ hp hb)
    | _ => exact hh.pf hp _
  | tup ρ cs vs hl hv ih =>
    intro k q
    simp only [Am.okR, List.all_eq_true] at k
    refine .tup _ _ vs hl fun q' c v h1 h2 => ?_
    have hp := k c (List.mem_of_getElem? h1)
    have hh := hv q' c v h1 h2
    cases c with
    | ptr id off => obtain ⟨b, hb, rfl⟩ := hh.ptr_inv; exact .ptr _ _ _ _ (q _ _ hp hb)
    | hs id off l c => obtain ⟨b, hb, rfl⟩ := hh.hs_inv; exact .hs _ _ _ _ _ _ (q _ _ hp hb)
    | _ => exact hh.pfA hp _
  | bad => exact fun _ _ => .bad _ _
def okB (id m : Nat) (i : Nat) : Bool := Nat.blt i m && !(Nat.beq i id)
/-- the last block takes the place of one that is empty -/
theorem Runs.back (id t : Nat) {m len cap : Nat} {H0 : Heap} {blk : List AV} (L : List (Nat × AV)) (hL : agree fr L) (ht : fr t = .hs m 0 len cap) (hH : H = H0 ++ [blk]) (hm : H0.length = m) (hid : H0[id]? = some []) (hk : k0 ≤ id)
    (hp : (H0 ++ [blk]).all (·.all fun c => okR (okB id m) c && nr1 c) = true) (hq : (L.all fun p => okR (okB id m) p.2) = true) (hr : Runs P f n k0 S ((frL L).set t (.hs id 0 len cap)) (H0.set id blk) res H') : Runs P f n k0 S fr H res H' := by
  refine Runs.frame ((t, .hs m 0 len cap) :: L) ⟨.inl ht, hL⟩ ?_
  subst hH; subst hm
  have hidl : id < H0.length := (List.getElem?_eq_some_iff.1 hid).1
  refine Runs.ghost (fun w G ρ tmps hkk hi => ?_) hr
  have hlen := hi.br.len
  simp at hlen
  obtain ⟨b, hb⟩ : ∃ b, ρ[H0.length]? = some b := ⟨ρ[H0.length]'(by omega), List.getElem?_eq_getElem (by omega)⟩
  have hre := reCell_re H0.length id
  have hkp := hre.keeps G w
  have hpp : ∀ blk' ∈ H0 ++ [blk], ∀ c ∈ blk', okR (okB id H0.length) c = true ∧ nr1 c = true := by
    intro blk' h1 c h2
    have := List.all_eq_true.1 (List.all_eq_true.1 hp blk' h1) c h2
    simpa using this
  have hmv : ∀ i b' : Nat, okB id H0.length i = true → ρ[i]? = some b' → ((ρ.take H0.length).set id b)[i]? = some b' := by
    intro i b' h1 h2
    unfold okB at h1
    rw [Bool.and_eq_true] at h1
    have h3 : i < H0.length := Nat.le_of_ble_eq_true h1.1
    have h4 : id ≠ i := fun e => by subst e; have := h1.2; rw [Nat.beq_refl] at this; cases this
    rw [List.getElem?_set_ne h4, List.getElem?_take, if_pos h3]; exact h2
  have hlr : (ρ.take H0.length).length = H0.length := by rw [List.length_take]; omega
  have hmvL : ∀ i, okR (okB id H0.length) (frL L i) = true := by
    intro i
    clear hL hr ht hi
    induction L with
    | nil => unfold frL; rfl
    | cons p r ih =>
      simp only [List.all_cons, Bool.and_eq_true] at hq
      unfold frL
      cases Nat.beq i p.1 with
      | true => exact hq.1
      | false => exact ih hq.2
  refine ⟨reG (reCell H0.length id) G, (ρ.take H0.length).set id b, hre.trans G w, ⟨hi.size, fun i => ?_, ⟨by simp [hlr], fun id' b' blk' j c h1 h2 h3 => ?_⟩, hre.wi hi.wi⟩, by simp [hlr]; omega, ?_⟩
  · have hfi := hi.fr i
    unfold frL at hfi
    unfold Fr.set
    cases hb2 : Nat.beq i t with
    | true =>
      rw [hb2] at hfi
      obtain ⟨b2, h1, h2⟩ := hfi.1.hs_inv
      rw [hb] at h1; simp at h1; subst h1
      rw [h2]
      exact ⟨.hs _ _ _ _ _ _ (by rw [List.getElem?_set_self (by omega)]), by simp [SpV, Sp]⟩
    | false =>
      rw [hb2] at hfi
      exact ⟨(hfi.1.keep hkp).okR (hmvL i) hmv, hfi.2.map fun c b o e => by unfold reG; rw [e]; rfl⟩
  · rw [List.getElem?_set] at h2
    split at h2
    · rename_i e
      subst e
      simp only [Option.some.injEq] at h2
      subst h2
      rw [List.getElem?_set_self (by omega)] at h1
      simp only [Option.some.injEq] at h1
      subst h1
      have hbk : (H0 ++ [blk])[H0.length]? = some blk := by simp
      obtain ⟨e1, v, e2, e3, e4⟩ := hi.br.cell H0.length b blk j c hb hbk h3
      have hc := hpp blk (by simp) c (List.mem_of_getElem? h3)
      exact ⟨by unfold reG; rw [e1]; exact if_pos rfl, v, e2, (e3.keep hkp).okR hc.1 hmv, Sp_nr1 hc.2⟩
    · rename_i hne
      have hil : id' < H0.length := (List.getElem?_eq_some_iff.1 h2).1
      rw [List.getElem?_set_ne hne, List.getElem?_take, if_pos hil] at h1
      have h2' : (H0 ++ [blk])[id']? = some blk' := by rw [List.getElem?_append_left hil]; exact h2
      obtain ⟨e1, v, e2, e3, e4⟩ := hi.br.cell id' b' blk' j c h1 h2' h3
      have hc := hpp blk' (List.mem_of_getElem? h2') c (List.mem_of_getElem? h3)
      exact ⟨by unfold reG; rw [e1]; exact if_neg (by omega), v, e2, (e3.keep hkp).okR hc.1 hmv, Sp_nr1 hc.2⟩
  · rw [List.take_set_of_le hk, List.take_take]
    congr 1
    omega
end Go.Am
set_option linter.unusedSectionVars false
set_option linter.unusedVariables false
namespace Go.Am
open Go
variable [Tab]
variable {P : Program} {n k0 : Nat} {fr fr1 : Fr} {H H1 : Heap} {f : FuncId} {S : List Item} {res : AV} {H' : Heap} {ops : Array Oper}
/-- named slots that are as they are -/
theorem zag {fr : Fr} : ∀ {l : List (Nat × AV)}, l.map (fun p => fr p.1) = l.map (·.2) → agree fr l
  | [], _ => trivial
  | (j, v) :: r, h => by
    simp only [List.map_cons, List.cons.injEq] at h
    exact ⟨.inl h.1, zag h.2⟩
theorem zl {a b : Nat} (h : Nat.ble a b = true) : a ≤ b := Nat.le_of_ble_eq_true h
/-- what is known of a test -/
theorem zg : (∀ (p : Prop) [Decidable p], (decide p = true) = p) ∧ (∀ (p : Prop) [Decidable p], (decide p = false) = ¬ p) ∧ (∀ b : Bool, ((!b) = true) = (b = false)) ∧ (∀ b : Bool, ((!b) = false) = (b = true)) ∧
    (∀ (α : Type) [BEq α] [LawfulBEq α] (a b : α), ((a == b) = true) = (a = b)) ∧ (∀ (α : Type) [BEq α] [LawfulBEq α] (a b : α), ((a == b) = false) = (a ≠ b)) ∧ (∀ (α : Type) [BEq α] [LawfulBEq α] (a b : α), ((a != b) = true) = (a ≠ b)) ∧ (∀ (α : Type) [BEq α] [LawfulBEq α] (a b : α), ((a != b) = false) = (a = b)) ∧
    (∀ (n : Nat) (b : Int), (n : Int).tmod b = (n : Int) % b) ∧ (∀ (n : Nat) (b : Int), (n : Int).tdiv b = (n : Int) / b) ∧ (∀ a b : Int, (¬ a < b) = (b ≤ a)) ∧ (∀ a b : Int, (¬ a ≤ b) = (b < a)) := by
  refine ⟨fun p _ => by simp, fun p _ => by simp, fun b => by simp, fun b => by simp, fun α _ _ a b => by simp, fun α _ _ a b => by simp, fun α _ _ a b => by simp, fun α _ _ a b => by simp, fun n b => tmodN n b, fun n b => tdivN n b, fun a b => by simp, fun a b => by simp⟩
end Go.Am
