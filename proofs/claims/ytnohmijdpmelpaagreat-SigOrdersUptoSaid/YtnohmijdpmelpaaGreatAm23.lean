/- The abstract machine: what an operation looks at and what it changes; operations that may change places; regions whose order is drawn. -/
import Derived.Test.YtnohmijdpmelpaaGreatAm22
set_option linter.unusedSectionVars false
set_option linter.unusedVariables false
set_option linter.unusedSimpArgs false
namespace Go.Am
open Go
variable [Tab]
variable {P : Program} {n k0 : Nat} {fr fr1 fr' : Fr} {H H1 : Heap} {f : FuncId} {S : List Item} {res : AV} {H' : Heap} {ops : Array Oper}

def opSlots (o : Oper) : List Nat := o.op.operands.toList.filterMap fun | .tmp t => some t | _ => none
def gSlot (ops : Array Oper) (o : Oper) : List Nat := match o.guard with
  | some (j, _) => match (ops[j]?).bind (·.dst) with
    | some s => [s]
    | none => []
  | none => []
def takes (tk : Bool) (o : Oper) : List Nat := match o.op with
  | .move (.tmp t) => bif tk then [t] else []
  | .assign (.tmp t) => bif tk then [t] else []
  | .extract (.tmp t) _ => bif tk then [t] else []
  | .call c => match c.callee, c.args.toList with
    | .builtin .append, .tmp t :: _ => [t]
    | _, _ => []
  | _ => []
/-- 0: the heap is nothing to it; 1: it reads; 2: it changes -/
def hcl (ck : Option CallK) (o : Oper) : Nat := match o.op with
  | .load .. => 1
  | .alloc _ => 2
  | .box .. => 2
  | .store .. => 2
  | .buildSlice .. => bif hMark ck then 2 else 0
  | .makeSlice _ (.const (.int _ 0)) _ => 0
  | .makeSlice .. => 2
  | .call c => match c.callee with
    | .builtin .copy => 2
    | .builtin .append => bif hMark ck then 2 else 1
    | .builtin _ => 0
    | .value _ => match ck with
      | some k => match k.L with
        | [] => 0
        | _ => 2
      | none => 0
    | _ => 0
  | _ => 0
theorem mem_slots {o : Oper} {t : Nat} (h : Operand.tmp t ∈ o.op.operands) : t ∈ opSlots o := by
  unfold opSlots
  rw [List.mem_filterMap]
  exact ⟨.tmp t, by simpa using h, rfl⟩
theorem opd_eq {o : Oper} (h : ∀ t, t ∈ opSlots o → fr' t = fr t) (x : Operand) (hx : x ∈ o.op.operands) (t : TypeId) : opd P t fr' x = opd P t fr x := by
  cases x with
  | tmp i => exact h i (mem_slots hx)
  | _ => rfl
theorem evN_fr {tk : Bool} {ck : Option CallK} {o : Oper} (h : ∀ t, t ∈ opSlots o → fr' t = fr t) : evN P tk ck fr' H o = evN P tk ck fr H o := by
  have hx := opd_eq (P := P) h
  have ht : ∀ t, Operand.tmp t ∈ o.op.operands → fr' t = fr t := fun t ht => h t (mem_slots ht)
  obtain ⟨dst, op, ty, pos, aft, g⟩ := o
  have parts : ∀ (ps : Array (Nat × Operand)) (t : TypeId), (∀ p, p ∈ ps → p.2 ∈ op.operands) → partsE P t fr' ps = partsE P t fr ps := by
    intro ps t hp
    unfold partsE
    refine List.map_congr_left fun p hp' => ?_
    rw [hx p.2 (hp p (by simpa using hp')) t]
  cases op with
  | call c =>
    have hc : ∀ x, x ∈ c.args → x ∈ (Op.call c).operands := fun x hx => by simp [Op.operands, Call.operands, hx]
    unfold evN
    simp only
    have harg : ∀ x, x ∈ c.args.toList → ∀ t, opd P t fr' x = opd P t fr x := fun x h t => hx x (hc x (by simpa using h)) t
    have hargt : ∀ t, Operand.tmp t ∈ c.args.toList → fr' t = fr t := fun t h => ht t (hc _ (by simpa using h))
    have pure_eq : pureM P fr' H ⟨dst, .call c, ty, pos, aft, g⟩ = pureM P fr H ⟨dst, .call c, ty, pos, aft, g⟩ := by
      unfold pureM evP
      simp only
      split <;> rename_i e1 e2 <;> first
        | (rename_i e0; split at e0 <;> split <;> simp_all)
        | skip
      all_goals
        split at * <;> split at * <;> simp_all
    split
    · rename_i t x tt t2 e1 e2 e3
      unfold appendM appendHM
      rw [harg x (by rw [e2]; simp), hargt t (by rw [e2]; simp)]
    · rename_i d x dT sT e1 e2 e3
      unfold copyM
      rw [harg x (by rw [e2]; simp), harg d (by rw [e2]; simp)]
    · exact pure_eq
    · rename_i f e1
      split
      · unfold callM
        rw [hx f (by simp [Op.operands, Call.operands, e1])]
        have : (c.args.toList.zipIdx.map fun p => opd P (c.argTypes.getD p.2 0) fr' p.1) = (c.args.toList.zipIdx.map fun p => opd P (c.argTypes.getD p.2 0) fr p.1) := by
          refine List.map_congr_left fun p hp => ?_
          exact harg p.1 (by
            have := List.mem_zipIdx hp
            rw [this.2.2]
            exact List.getElem_mem _) _
        rw [this]
      · rfl
    · rfl
  | buildSlice t len ps =>
    simp only [evN, litM, litHM]
    rw [parts ps 0 fun p hp => by simp only [Op.operands, List.mem_toArray, List.mem_map]; exact ⟨p, by simpa using hp, rfl⟩]
  | build t ps =>
    simp only [evN, buildM]
    rw [parts ps 0 fun p hp => by simp only [Op.operands, List.mem_toArray, List.mem_map]; exact ⟨p, by simpa using hp, rfl⟩]
  | makeFunc fn first cap =>
    simp only [evN, pureM, evP]
    have : (cap.toList.map fun x => un (opd P ty fr' x)) = (cap.toList.map fun x => un (opd P ty fr x)) :=
      List.map_congr_left fun x hx' => by rw [hx x (by simp only [Op.operands, Array.mem_append]; exact .inr (by simpa using hx'))]
    rw [this]
  | slice t x lo hi mx =>
    have hm : ∀ (y : Option Operand), (∀ z, y = some z → z ∈ (Op.slice t x lo hi mx).operands) → y.map (opd P t fr') = y.map (opd P t fr) := by
      intro y hy
      cases y with
      | none => rfl
      | some z => simp only [Option.map_some]; rw [hx z (hy z rfl)]
    simp only [evN, pureM, evP]
    rw [hx x (by simp [Op.operands]), hm lo (by rintro z rfl; simp [Op.operands]), hm hi (by rintro z rfl; simp [Op.operands]), hm mx (by rintro z rfl; simp [Op.operands])]
  | move x => cases x <;> simp only [evN, takeM, pureM, evP, opd] <;> (try rw [ht _ (by simp [Op.operands])])
  | assign x => cases x <;> simp only [evN, takeM, pureM, evP, opd] <;> (try rw [ht _ (by simp [Op.operands])])
  | extract x j => cases x <;> simp only [evN, takeXM, pureM, evP, opd] <;> (try rw [ht _ (by simp [Op.operands])])
  | makeSlice t l c =>
    have e1 := hx l (by simp [Op.operands]) 3
    have e2 := hx c (by simp [Op.operands]) 3
    simp only [evN, makeM, e2]
    cases l with
    | const v =>
      split
      · split
        · rfl
        · rename_i e3 _ e4 
          have e5 : ∀ i, (if False then opd P 3 fr i else opd P 3 fr i) = opd P 3 fr i := by intros; simp
          simp only [opd]
      · rfl
    | tmp i => simp only [e1]
    | func i => simp only [e1]
    | global i => simp only [e1]
  | alloc => rfl
  | _ =>
    first
    | rfl
    | (simp [Op.operands] at hx
       simp [evN, boxM, storeM, convM, pureM, evP, hx])
    | (simp [evN, boxM, storeM, convM, pureM, evP]; done)
/-- what is taken -/
theorem evN_u {tk : Bool} {ck : Option CallK} {o : Oper} {c : Prop} {v : AV} {t : Nat} {x : AV} (h : evN P tk ck fr H o = some (c, v, some (t, x), H1)) : t ∈ takes tk o := by
  have hp : ∀ {o : Oper}, pureM P fr H o ≠ some (c, v, some (t, x), H1) := by
    intro o h
    unfold pureM at h
    split at h <;> simp at h
  have htk : ∀ {t' : Nat} {o : Oper}, takeM P fr H o t' = some (c, v, some (t, x), H1) → t = t' := by
    intro t' o h
    unfold takeM at h
    split at h
    case h_4 => exact absurd h hp
    all_goals simp at h; exact h.2.2.1.1.symm
  unfold evN at h
  unfold takes
  split at h
  · simp at h
  · simp at h
  · rename_i e; rw [e]; cases tk
    · exact absurd h hp
    · have := htk h; subst this; simp
  · rename_i e; rw [e]; cases tk
    · exact absurd h hp
    · have := htk h; subst this; simp
  · rename_i e; rw [e]; cases tk
    · exact absurd h hp
    · simp only [cond_true] at h ⊢
      unfold takeXM at h
      split at h
      · split at h
        case h_3 => exact absurd h hp
        all_goals simp at h; simp [h.2.2.1.1]
      · simp at h
  · rename_i e; rw [e]
    split at h
    · rename_i e1 e2 e3
      simp only [e1, e2]
      rw [Bool.cond_eq_ite] at h
      split at h
      · exfalso
        unfold appendHM at h
        split at h
        · split at h
          · rw [Bool.cond_eq_ite] at h
            split at h
            · split at h
              · rw [setL_eq] at h; simp at h
              · simp at h
            · simp at h
          · simp at h
        · simp at h
      unfold appendM at h
      split at h
      · split at h
        · split at h
          · rw [Bool.cond_eq_ite] at h
            split at h
            · simp at h; simp [h.2.2.1.1]
            · simp at h
          · simp at h
        · split at h
          · rw [Bool.cond_eq_ite] at h
            split at h
            · simp at h; simp [h.2.2.1.1]
            · simp at h
          · simp at h
        · split at h
          · split at h
            · rw [Bool.cond_eq_ite] at h
              split at h
              · simp at h; simp [h.2.2.1.1]
              · simp at h
            · simp at h
          · simp at h
        · rw [Bool.cond_eq_ite] at h
          split at h
          · simp at h; simp [h.2.2.1.1]
          · simp at h
        · simp at h
      · simp at h
    · unfold copyM at h
      split at h
      · rw [Bool.cond_eq_ite] at h
        split at h
        · split at h
          · rw [setL_eq] at h; simp at h
          · simp at h
        · simp at h
      · simp at h
    · exact absurd h hp
    · split at h
      · unfold callM at h
        split at h
        · split at h
          · rw [Bool.cond_eq_ite] at h
            split at h
            · split at h
              · split at h <;> simp at h
              · rw [Bool.cond_eq_ite] at h
                split at h <;> simp at h
            · simp at h
          · simp at h
        · simp at h
      · simp at h
    · simp at h
  · rw [Bool.cond_eq_ite] at h
    split at h
    · unfold litHM at h
      split at h
      · rw [litLen_eq, cellsF_eq, snocL_eq] at h
        simp at h
      · simp at h
    · unfold litM at h
      split at h
      · split at h
        · split at h
          · rw [Bool.cond_eq_ite] at h
            split at h <;> simp at h
          · simp at h
        · simp at h
      · simp at h
  · unfold makeM at h
    split at h
    · rw [Bool.cond_eq_ite] at h
      split at h
      · split at h
        · split at h <;> simp at h
        · split at h
          · (try rw [cellsF_eq] at h); rw [litLen_eq, snocL_eq] at h; simp at h
          · simp at h
      · simp at h
    · simp at h
  · split at h
    · (try rw [cellsF_eq] at h); rw [litLen_eq, snocL_eq] at h; simp at h
    · simp at h
  · unfold boxM at h
    rw [AV.force_eq, Bool.cond_eq_ite, cellsF_eq, litLen_eq, snocL_eq] at h
    split at h <;> simp at h
  · unfold storeM at h
    split at h
    · rw [AV.force_eq] at h
      split at h
      · rw [Bool.cond_eq_ite] at h
        split at h
        · split at h
          · rw [AV.force_eq, setL_eq] at h; simp at h
          · rw [setL_eq] at h; simp at h
        · simp at h
      · simp at h
    · simp at h
  · unfold convM at h
    split at h
    · split at h <;> simp at h
    · exact absurd h hp
  · unfold buildM at h
    split at h <;> simp at h
  · exact absurd h hp
theorem evP_h {o : Oper} (ho : ∀ t a, o.op ≠ .load t a) (H H2 : Heap) : evP P fr H o = evP P fr H2 o := by
  obtain ⟨dst, op, ty, pos, aft, g⟩ := o
  cases op <;> first | rfl | exact absurd rfl (ho _ _)
def reH (H2 : Heap) (r : R4) : R4 := match r with
  | some (c, v, u, _) => some (c, v, u, H2)
  | none => none
theorem pureM_re {o : Oper} (ho : ∀ t a, o.op ≠ .load t a) (H H2 : Heap) : pureM P fr H2 o = reH H2 (pureM P fr H o) := by
  unfold pureM
  rw [evP_h ho H2 H]
  split <;> rfl
theorem takeM_re {o : Oper} {t : Nat} (ho : ∀ t a, o.op ≠ .load t a) (H H2 : Heap) : takeM P fr H2 o t = reH H2 (takeM P fr H o t) := by
  unfold takeM
  split <;> first | rfl | exact pureM_re ho H H2
theorem takeXM_re {o : Oper} {t j : Nat} (ho : ∀ t a, o.op ≠ .load t a) (H H2 : Heap) : takeXM P fr H2 o t j = reH H2 (takeXM P fr H o t j) := by
  unfold takeXM
  split
  · split <;> first | rfl | exact pureM_re ho H H2
  · rfl
theorem callM_re {c : Call} {f : Operand} {k : CallK} (hL : k.L = []) (H H2 : Heap) : callM P fr H2 c f k = reH H2 (callM P fr H c f k) := by
  unfold callM
  split
  · split
    · rw [Bool.cond_eq_ite, Bool.cond_eq_ite]
      split
      · simp only [hL]
        split <;> rfl
      · rfl
    · rfl
  · rfl
/-- to whom the heap is nothing -/
theorem evN_re {tk : Bool} {ck : Option CallK} {o : Oper} (hz : hcl ck o = 0) (H H2 : Heap) : evN P tk ck fr H2 o = reH H2 (evN P tk ck fr H o) := by
  have hn : ∀ t a, o.op ≠ .load t a := fun t a e => by simp [hcl, e] at hz
  have hp := pureM_re (P := P) (fr := fr) hn H H2
  have ht := fun t => takeM_re (P := P) (fr := fr) (t := t) hn H H2
  have hx := fun t j => takeXM_re (P := P) (fr := fr) (t := t) (j := j) hn H H2
  unfold evN
  split
  · rfl
  · rfl
  · cases tk
    · exact hp
    · exact ht _
  · cases tk
    · exact hp
    · exact ht _
  · cases tk
    · exact hp
    · exact hx _ _
  · rename_i cc e
    split
    · rename_i e1 e2 e3
      exfalso
      simp only [hcl, e, e1] at hz
      cases hh : hMark ck <;> rw [hh] at hz <;> simp at hz
    · rename_i e1 e2 e3
      simp [hcl, e, e1] at hz
    · exact hp
    · rename_i f e1
      split
      · rename_i k
        have hL : k.L = [] := by
          simp only [hcl, e, e1] at hz
          split at hz
          · assumption
          · simp at hz
        exact callM_re hL H H2
      · rfl
    · rfl
  · rename_i e
    have hm : hMark ck = false := by
      simp only [hcl, e] at hz
      cases hh : hMark ck
      · rfl
      · rw [hh] at hz; simp at hz
    rw [hm]
    simp only [cond_false]
    unfold litM
    split
    · split
      · split
        · rw [Bool.cond_eq_ite, Bool.cond_eq_ite]; split <;> rfl
        · rfl
      · rfl
    · rfl
  · rename_i t l k e
    unfold hcl at hz
    rw [e] at hz
    simp only at hz
    split at hz <;> simp_all
    unfold makeM
    split
    · rw [Bool.cond_eq_ite, Bool.cond_eq_ite]
      split
      · simp only
        split <;> rfl
      · rfl
    · rfl
  · rename_i e; simp [hcl, e] at hz
  · rename_i e; simp [hcl, e] at hz
  · rename_i e; simp [hcl, e] at hz
  · unfold convM
    split
    · split <;> rfl
    · exact hp
  · unfold buildM
    split <;> rfl
  · exact hp
theorem evN_h0 {tk : Bool} {ck : Option CallK} {o : Oper} {c : Prop} {v : AV} {u : Option (Nat × AV)} (hz : hcl ck o = 0) (h : evN P tk ck fr H o = some (c, v, u, H1)) : H1 = H ∧ ∀ H2, evN P tk ck fr H2 o = some (c, v, u, H2) := by
  constructor
  · have := evN_re (P := P) (tk := tk) (fr := fr) hz H H
    rw [h] at this
    simp only [reH, Option.some.injEq, Prod.mk.injEq] at this
    exact this.2.2.2
  · intro H2
    rw [evN_re hz H H2, h]; rfl
theorem hcl_ld {ck : Option CallK} {o : Oper} (h : hcl ck o = 1) : (∃ t a, o.op = .load t a) ∨ ∃ c, o.op = .call c ∧ c.callee = .builtin .append := by
  obtain ⟨dst, op, ty, pos, aft, g⟩ := o
  cases op with
  | load t a => exact .inl ⟨t, a, rfl⟩
  | makeSlice t l k =>
    simp only [hcl] at h
    split at h <;> simp_all
  | buildSlice t l k =>
    simp only [hcl] at h
    cases hh : hMark ck <;> rw [hh] at h <;> simp at h
  | call c =>
    simp only [hcl] at h
    split at h
    · simp at h
    · rename_i e; exact .inr ⟨c, rfl, e⟩
    · simp at h
    · split at h
      · split at h <;> simp at h
      · simp at h
    · simp at h
  | _ => simp [hcl] at h
theorem appendM_H {t : Nat} {x : Operand} {tt t2 : TypeId} {c : Prop} {v : AV} {u : Option (Nat × AV)} (h : appendM P fr H t x tt t2 = some (c, v, u, H1)) : H1 = H := by
  unfold appendM at h
  split at h
  · split at h
    · split at h
      · rw [Bool.cond_eq_ite] at h
        split at h
        · simp at h; exact h.2.2.2.symm
        · simp at h
      · simp at h
    · split at h
      · rw [Bool.cond_eq_ite] at h
        split at h
        · simp at h; exact h.2.2.2.symm
        · simp at h
      · simp at h
    · split at h
      · split at h
        · rw [Bool.cond_eq_ite] at h
          split at h
          · simp at h; exact h.2.2.2.symm
          · simp at h
        · simp at h
      · simp at h
    · rw [Bool.cond_eq_ite] at h
      split at h
      · simp at h; exact h.2.2.2.symm
      · simp at h
    · simp at h
  · simp at h
theorem pureM_H {o : Oper} {c : Prop} {v : AV} {u : Option (Nat × AV)} (h : pureM P fr H o = some (c, v, u, H1)) : H1 = H := by
  unfold pureM at h
  split at h
  · simp only [Option.some.injEq, Prod.mk.injEq] at h
    exact h.2.2.2.symm
  · simp at h
theorem evN_h1 {tk : Bool} {ck : Option CallK} {o : Oper} {c : Prop} {v : AV} {u : Option (Nat × AV)} (hz : Nat.ble (hcl ck o) 1 = true) (h : evN P tk ck fr H o = some (c, v, u, H1)) : H1 = H := by
  have hz := Nat.le_of_ble_eq_true hz
  by_cases h0 : hcl ck o = 0
  · exact (evN_h0 h0 h).1
  · rcases hcl_ld (show hcl ck o = 1 by omega) with ⟨t, a, e⟩ | ⟨cc, e, e1⟩
    · obtain ⟨dst, op, ty, pos, aft, g⟩ := o
      subst e
      have h : pureM P fr H ⟨dst, .load t a, ty, pos, aft, g⟩ = _ := h
      exact pureM_H h
    · obtain ⟨dst, op, ty, pos, aft, g⟩ := o
      simp only at e
      subst e
      have hm : hMark ck = false := by
        simp only [hcl, e1] at hz h0
        cases hh : hMark ck
        · rfl
        · rw [hh] at hz; simp at hz
      simp only [evN, e1, hm, cond_false] at h
      split at h
      · exact appendM_H h
      · simp_all
      · exact pureM_H h
      · simp_all
      · simp at h
theorem evM_fr {tk : Bool} {ck : Option CallK} {o : Oper} (h : ∀ t, t ∈ opSlots o → fr' t = fr t) : evM P tk ck fr' H o = evM P tk ck fr H o := by
  unfold evM
  split
  · rename_i t a k e
    unfold loadK
    rw [opd_eq (P := P) h a (by rw [e]; simp [Op.operands])]
  · rw [evN_fr h]
theorem evM_u {tk : Bool} {ck : Option CallK} {o : Oper} {c : Prop} {v : AV} {t : Nat} {x : AV} (h : evM P tk ck fr H o = some (c, v, some (t, x), H1)) : t ∈ takes tk o := by
  unfold evM at h
  split at h
  · exact absurd (loadK_h h).1 (by simp)
  · obtain ⟨c0, v0, h0, _⟩ := ovr_inv h
    exact evN_u h0
theorem ovr_re (ck : Option CallK) (o : Oper) (H2 : Heap) (r : R4) : ovr ck o (reH H2 r) = reH H2 (ovr ck o r) := by
  unfold ovr
  cases ck with
  | none => rfl
  | some k =>
    simp only
    cases hb : (isCV o || hMark (some k))
    · cases r <;> rfl
    · rfl
theorem evM_re {tk : Bool} {ck : Option CallK} {o : Oper} (hz : hcl ck o = 0) (H H2 : Heap) : evM P tk ck fr H2 o = reH H2 (evM P tk ck fr H o) := by
  unfold evM
  split
  · rename_i e
    simp [hcl, e] at hz
  · rw [evN_re hz H H2, ovr_re]
theorem evM_h0 {tk : Bool} {ck : Option CallK} {o : Oper} {c : Prop} {v : AV} {u : Option (Nat × AV)} (hz : hcl ck o = 0) (h : evM P tk ck fr H o = some (c, v, u, H1)) : H1 = H ∧ ∀ H2, evM P tk ck fr H2 o = some (c, v, u, H2) := by
  constructor
  · have := evM_re (P := P) (tk := tk) (fr := fr) hz H H
    rw [h] at this
    simp only [reH, Option.some.injEq, Prod.mk.injEq] at this
    exact this.2.2.2
  · intro H2
    rw [evM_re hz H H2, h]; rfl
theorem evM_h1 {tk : Bool} {ck : Option CallK} {o : Oper} {c : Prop} {v : AV} {u : Option (Nat × AV)} (hz : Nat.ble (hcl ck o) 1 = true) (h : evM P tk ck fr H o = some (c, v, u, H1)) : H1 = H := by
  unfold evM at h
  split at h
  · exact (loadK_h h).2
  · obtain ⟨c0, v0, h0, _⟩ := ovr_inv h
    exact evN_h1 hz h0
end Go.Am
