/- The abstract machine: what an operation looks at and what it changes; operations that may change places; regions whose order is drawn. The abstract machine: regions whose order is drawn. The abstract machine: returns reckoned, conditions known, places where ways meet; numbers. The abstract machine: the bytes of a constant text; blocks that become bytes. The abstract machine: from a contract to what a row asks for. -/
import Derived.Test.YtdigohaeakclfaaGreatDoorMa05
import Derived.Orders
import Derived.Lib.SlBytesConst
import Derived.WalkKit
import Derived.ProofKit
import Derived.OpenShut
import Derived.JoinedCond
import Derived.Carry
import Derived.SliceStrings
import Derived.ChangeMaps5
set_option linter.unusedSectionVars false
set_option linter.unusedVariables false
set_option linter.unusedSimpArgs false
namespace Go.Am
open Go
variable [Tab]
variable {P : Program} {n k0 : Nat} {fr fr1 fr' : Fr} {H H1 : Heap} {f : FuncId} {S : List Item} {res : AV} {H' : Heap} {ops : Array Oper}

def opSlots (o : Oper) : List Nat := o.op.operands.toList.filterMap fun | .tmp t => some t | _ => none
def gSlot (ops : Array Oper) (o : Oper) : List Nat := match o.guard with
  | some (j, _) => match (ops[j]?).bind (·.dst) with
    | some s => [s]
    | none => []
  | none => []
def takes (tk : Bool) (o : Oper) : List Nat := match o.op with
  | .move (.tmp t) => bif tk then [t] else []
  | .assign (.tmp t) => bif tk then [t] else []
  | .extract (.tmp t) _ => bif tk then [t] else []
  | .call c => match c.callee, c.args.toList with
    | .builtin .append, .tmp t :: _ => [t]
    | _, _ => []
  | _ => []
/-- 0: the heap is nothing to it; 1: it reads; 2: it changes -/
def hcl (ck : Option CallK) (o : Oper) : Nat := match o.op with
  | .load .. => 1
  | .alloc _ => 2
  | .box .. => 2
  | .store .. => 2
  | .buildSlice .. => bif hMark ck then 2 else 0
  | .makeSlice _ (.const (.int _ 0)) _ => 0
  | .makeSlice .. => 2
  | .call c => match c.callee with
    | .builtin .copy => 2
    | .builtin .append => bif hMark ck then 2 else 1
    | .builtin _ => 0
    | .value _ => match ck with
      | some k => match k.L with
        | [] => 0
        | _ => 2
      | none => 0
    | _ => 0
  | _ => 0
theorem mem_slots {o : Oper} {t : Nat} (h : Operand.tmp t ∈ o.op.operands) : t ∈ opSlots o := by
  unfold opSlots
  rw [List.mem_filterMap]
  exact ⟨.tmp t, by simpa using h, rfl⟩
theorem opd_eq {o : Oper} (h : ∀ t, t ∈ opSlots o → fr' t = fr t) (x : Operand) (hx : x ∈ o.op.operands) (t : TypeId) : opd P t fr' x = opd P t fr x := by
  cases x with
  | tmp i => exact h i (mem_slots hx)
  | _ => rfl
theorem evN_fr {tk : Bool} {ck : Option CallK} {o : Oper} (h : ∀ t, t ∈ opSlots o → fr' t = fr t) : evN P tk ck fr' H o = evN P tk ck fr H o := by
  have hx := opd_eq (P := P) h
  have ht : ∀ t, Operand.tmp t ∈ o.op.operands → fr' t = fr t := fun t ht => h t (mem_slots ht)
  obtain ⟨dst, op, ty, pos, aft, g⟩ := o
  have parts : ∀ (ps : Array (Nat × Operand)) (t : TypeId), (∀ p, p ∈ ps → p.2 ∈ op.operands) → partsE P t fr' ps = partsE P t fr ps := by
    intro ps t hp
    unfold partsE
    refine List.map_congr_left fun p hp' => ?_
    rw [hx p.2 (hp p (by simpa using hp')) t]
  cases op with
  | call c =>
    have hc : ∀ x, x ∈ c.args → x ∈ (Op.call c).operands := fun x hx => by simp [Op.operands, Call.operands, hx]
    unfold evN
    simp only
    have harg : ∀ x, x ∈ c.args.toList → ∀ t, opd P t fr' x = opd P t fr x := fun x h t => hx x (hc x (by simpa using h)) t
    have hargt : ∀ t, Operand.tmp t ∈ c.args.toList → fr' t = fr t := fun t h => ht t (hc _ (by simpa using h))
    have pure_eq : pureM P fr' H ⟨dst, .call c, ty, pos, aft, g⟩ = pureM P fr H ⟨dst, .call c, ty, pos, aft, g⟩ := by
      unfold pureM evP
      simp only
      split <;> rename_i e1 e2 <;> first
        | (rename_i e0; split at e0 <;> split <;> simp_all)
        | skip
      all_goals
        split at * <;> split at * <;> simp_all
    split
    · rename_i t x tt t2 e1 e2 e3
      unfold appendM appendHM
      rw [harg x (by rw [e2]; simp), hargt t (by rw [e2]; simp)]
    · rename_i d x dT sT e1 e2 e3
      unfold copyM
      rw [harg x (by rw [e2]; simp), harg d (by rw [e2]; simp)]
    · exact pure_eq
    · rename_i f e1
      split
      · unfold callM
        rw [hx f (by simp [Op.operands, Call.operands, e1])]
        have : (c.args.toList.zipIdx.map fun p => opd P (c.argTypes.getD p.2 0) fr' p.1) = (c.args.toList.zipIdx.map fun p => opd P (c.argTypes.getD p.2 0) fr p.1) := by
          refine List.map_congr_left fun p hp => ?_
          exact harg p.1 (by
            have := List.mem_zipIdx hp
            rw [this.2.2]
            exact List.getElem_mem _) _
        rw [this]
      · rfl
    · rfl
  | buildSlice t len ps =>
    simp only [evN, litM, litHM]
    rw [parts ps 0 fun p hp => by simp only [Op.operands, List.mem_toArray, List.mem_map]; exact ⟨p, by simpa using hp, rfl⟩]
  | build t ps =>
    simp only [evN, buildM]
    rw [parts ps 0 fun p hp => by simp only [Op.operands, List.mem_toArray, List.mem_map]; exact ⟨p, by simpa using hp, rfl⟩]
  | makeFunc fn first cap =>
    simp only [evN, pureM, evP]
    have : (cap.toList.map fun x => un (opd P ty fr' x)) = (cap.toList.map fun x => un (opd P ty fr x)) :=
      List.map_congr_left fun x hx' => by rw [hx x (by simp only [Op.operands, Array.mem_append]; exact .inr (by simpa using hx'))]
    rw [this]
  | slice t x lo hi mx =>
    have hm : ∀ (y : Option Operand), (∀ z, y = some z → z ∈ (Op.slice t x lo hi mx).operands) → y.map (opd P t fr') = y.map (opd P t fr) := by
      intro y hy
      cases y with
      | none => rfl
      | some z => simp only [Option.map_some]; rw [hx z (hy z rfl)]
    simp only [evN, pureM, evP]
    rw [hx x (by simp [Op.operands]), hm lo (by rintro z rfl; simp [Op.operands]), hm hi (by rintro z rfl; simp [Op.operands]), hm mx (by rintro z rfl; simp [Op.operands])]
  | move x => cases x <;> simp only [evN, takeM, pureM, evP, opd] <;> (try rw [ht _ (by simp [Op.operands])])
  | assign x => cases x <;> simp only [evN, takeM, pureM, evP, opd] <;> (try rw [ht _ (by simp [Op.operands])])
  | extract x j => cases x <;> simp only [evN, takeXM, pureM, evP, opd] <;> (try rw [ht _ (by simp [Op.operands])])
  | makeSlice t l c =>
    have e1 := hx l (by simp [Op.operands]) 3
    have e2 := hx c (by simp [Op.operands]) 3
    simp only [evN, makeM, e2]
    cases l with
    | const v =>
      split
      · split
        · rfl
        · rename_i e3 _ e4 
          have e5 : ∀ i, (if False then opd P 3 fr i else opd P 3 fr i) = opd P 3 fr i := by intros; simp
          simp only [opd]
      · rfl
    | tmp i => simp only [e1]
    | func i => simp only [e1]
    | global i => simp only [e1]
  | alloc => rfl
  | _ =>
    first
    | rfl
    | (simp [Op.operands] at hx
       simp [evN, boxM, storeM, convM, pureM, evP, hx])
    | (simp [evN, boxM, storeM, convM, pureM, evP]; done)
/-- what is taken -/
theorem evN_u {tk : Bool} {ck : Option CallK} {o : Oper} {c : Prop} {v : AV} {t : Nat} {x : AV} (h : evN P tk ck fr H o = some (c, v, some (t, x), H1)) : t ∈ takes tk o := by
  have hp : ∀ {o : Oper}, pureM P fr H o ≠ some (c, v, some (t, x), H1) := by
    intro o h
    unfold pureM at h
    split at h <;> simp at h
  have htk : ∀ {t' : Nat} {o : Oper}, takeM P fr H o t' = some (c, v, some (t, x), H1) → t = t' := by
    intro t' o h
    unfold takeM at h
    split at h
    case h_4 => exact absurd h hp
    all_goals simp at h; exact h.2.2.1.1.symm
  unfold evN at h
  unfold takes
  split at h
  · simp at h
  · simp at h
  · rename_i e; rw [e]; cases tk
    · exact absurd h hp
    · have := htk h; subst this; simp
  · rename_i e; rw [e]; cases tk
    · exact absurd h hp
    · have := htk h; subst this; simp
  · rename_i e; rw [e]; cases tk
    · exact absurd h hp
    · simp only [cond_true] at h ⊢
      unfold takeXM at h
      split at h
      · split at h
        case h_3 => exact absurd h hp
        all_goals simp at h; simp [h.2.2.1.1]
      · simp at h
  · rename_i e; rw [e]
    split at h
    · rename_i e1 e2 e3
      simp only [e1, e2]
      rw [Bool.cond_eq_ite] at h
      split at h
      · exfalso
        unfold appendHM at h
        split at h
        · split at h
          · rw [Bool.cond_eq_ite] at h
            split at h
            · split at h
              · rw [setL_eq] at h; simp at h
              · simp at h
            · simp at h
          · simp at h
        · simp at h
      unfold appendM at h
      split at h
      · split at h
        · split at h
          · rw [Bool.cond_eq_ite] at h
            split at h
            · simp at h; simp [h.2.2.1.1]
            · simp at h
          · simp at h
        · split at h
          · rw [Bool.cond_eq_ite] at h
            split at h
            · simp at h; simp [h.2.2.1.1]
            · simp at h
          · simp at h
        · split at h
          · split at h
            · rw [Bool.cond_eq_ite] at h
              split at h
              · simp at h; simp [h.2.2.1.1]
              · simp at h
            · simp at h
          · simp at h
        · rw [Bool.cond_eq_ite] at h
          split at h
          · simp at h; simp [h.2.2.1.1]
          · simp at h
        · simp at h
      · simp at h
    · unfold copyM at h
      split at h
      · rw [Bool.cond_eq_ite] at h
        split at h
        · split at h
          · rw [setL_eq] at h; simp at h
          · simp at h
        · simp at h
      · simp at h
    · exact absurd h hp
    · split at h
      · unfold callM at h
        split at h
        · split at h
          · rw [Bool.cond_eq_ite] at h
            split at h
            · split at h
              · split at h <;> simp at h
              · rw [Bool.cond_eq_ite] at h
                split at h <;> simp at h
            · simp at h
          · simp at h
        · simp at h
      · simp at h
    · simp at h
  · rw [Bool.cond_eq_ite] at h
    split at h
    · unfold litHM at h
      split at h
      · rw [litLen_eq, cellsF_eq, snocL_eq] at h
        simp at h
      · simp at h
    · unfold litM at h
      split at h
      · split at h
        · split at h
          · rw [Bool.cond_eq_ite] at h
            split at h <;> simp at h
          · simp at h
        · simp at h
      · simp at h
  · unfold makeM at h
    split at h
    · rw [Bool.cond_eq_ite] at h
      split at h
      · split at h
        · split at h <;> simp at h
        · split at h
          · (try rw [cellsF_eq] at h); rw [litLen_eq, snocL_eq] at h; simp at h
          · simp at h
      · simp at h
    · simp at h
  · split at h
    · (try rw [cellsF_eq] at h); rw [litLen_eq, snocL_eq] at h; simp at h
    · simp at h
  · unfold boxM at h
    rw [AV.force_eq, Bool.cond_eq_ite, cellsF_eq, litLen_eq, snocL_eq] at h
    split at h <;> simp at h
  · unfold storeM at h
    split at h
    · rw [AV.force_eq] at h
      split at h
      · rw [Bool.cond_eq_ite] at h
        split at h
        · split at h
          · rw [AV.force_eq, setL_eq] at h; simp at h
          · rw [setL_eq] at h; simp at h
        · simp at h
      · simp at h
    · simp at h
  · unfold convM at h
    split at h
    · split at h <;> simp at h
    · exact absurd h hp
  · unfold buildM at h
    split at h <;> simp at h
  · exact absurd h hp
theorem evP_h {o : Oper} (ho : ∀ t a, o.op ≠ .load t a) (H H2 : Heap) : evP P fr H o = evP P fr H2 o := by
  obtain ⟨dst, op, ty, pos, aft, g⟩ := o
  cases op <;> first | rfl | exact absurd rfl (ho _ _)
def reH (H2 : Heap) (r : R4) : R4 := match r with
  | some (c, v, u, _) => some (c, v, u, H2)
  | none => none
theorem pureM_re {o : Oper} (ho : ∀ t a, o.op ≠ .load t a) (H H2 : Heap) : pureM P fr H2 o = reH H2 (pureM P fr H o) := by
  unfold pureM
  rw [evP_h ho H2 H]
  split <;> rfl
theorem takeM_re {o : Oper} {t : Nat} (ho : ∀ t a, o.op ≠ .load t a) (H H2 : Heap) : takeM P fr H2 o t = reH H2 (takeM P fr H o t) := by
  unfold takeM
  split <;> first | rfl | exact pureM_re ho H H2
theorem takeXM_re {o : Oper} {t j : Nat} (ho : ∀ t a, o.op ≠ .load t a) (H H2 : Heap) : takeXM P fr H2 o t j = reH H2 (takeXM P fr H o t j) := by
  unfold takeXM
  split
  · split <;> first | rfl | exact pureM_re ho H H2
  · rfl
theorem callM_re {c : Call} {f : Operand} {k : CallK} (hL : k.L = []) (H H2 : Heap) : callM P fr H2 c f k = reH H2 (callM P fr H c f k) := by
  unfold callM
  split
  · split
    · rw [Bool.cond_eq_ite, Bool.cond_eq_ite]
      split
      · simp only [hL]
        split <;> rfl
      · rfl
    · rfl
  · rfl
/-- to whom the heap is nothing -/
theorem evN_re {tk : Bool} {ck : Option CallK} {o : Oper} (hz : hcl ck o = 0) (H H2 : Heap) : evN P tk ck fr H2 o = reH H2 (evN P tk ck fr H o) := by
  have hn : ∀ t a, o.op ≠ .load t a := fun t a e => by simp [hcl, e] at hz
  have hp := pureM_re (P := P) (fr := fr) hn H H2
  have ht := fun t => takeM_re (P := P) (fr := fr) (t := t) hn H H2
  have hx := fun t j => takeXM_re (P := P) (fr := fr) (t := t) (j := j) hn H H2
  unfold evN
  split
  · rfl
  · rfl
  · cases tk
    · exact hp
    · exact ht _
  · cases tk
    · exact hp
    · exact ht _
  · cases tk
    · exact hp
    · exact hx _ _
  · rename_i cc e
    split
    · rename_i e1 e2 e3
      exfalso
      simp only [hcl, e, e1] at hz
      cases hh : hMark ck <;> rw [hh] at hz <;> simp at hz
    · rename_i e1 e2 e3
      simp [hcl, e, e1] at hz
    · exact hp
    · rename_i f e1
      split
      · rename_i k
        have hL : k.L = [] := by
          simp only [hcl, e, e1] at hz
          split at hz
          · assumption
          · simp at hz
        exact callM_re hL H H2
      · rfl
    · rfl
  · rename_i e
    have hm : hMark ck = false := by
      simp only [hcl, e] at hz
      cases hh : hMark ck
      · rfl
      · rw [hh] at hz; simp at hz
    rw [hm]
    simp only [cond_false]
    unfold litM
    split
    · split
      · split
        · rw [Bool.cond_eq_ite, Bool.cond_eq_ite]; split <;> rfl
        · rfl
      · rfl
    · rfl
  · rename_i t l k e
    unfold hcl at hz
    rw [e] at hz
    simp only at hz
    split at hz <;> simp_all
    unfold makeM
    split
    · rw [Bool.cond_eq_ite, Bool.cond_eq_ite]
      split
      · simp only
        split <;> rfl
      · rfl
    · rfl
  · rename_i e; simp [hcl, e] at hz
  · rename_i e; simp [hcl, e] at hz
  · rename_i e; simp [hcl, e] at hz
  · unfold convM
    split
    · split <;> rfl
    · exact hp
  · unfold buildM
    split <;> rfl
  · exact hp
theorem evN_h0 {tk : Bool} {ck : Option CallK} {o : Oper} {c : Prop} {v : AV} {u : Option (Nat × AV)} (hz : hcl ck o = 0) (h : evN P tk ck fr H o = some (c, v, u, H1)) : H1 = H ∧ ∀ H2, evN P tk ck fr H2 o = some (c, v, u, H2) := by
  constructor
  · have := evN_re (P := P) (tk := tk) (fr := fr) hz H H
    rw [h] at this
    simp only [reH, Option.some.injEq, Prod.mk.injEq] at this
    exact this.2.2.2
  · intro H2
    rw [evN_re hz H H2, h]; rfl
theorem hcl_ld {ck : Option CallK} {o : Oper} (h : hcl ck o = 1) : (∃ t a, o.op = .load t a) ∨ ∃ c, o.op = .call c ∧ c.callee = .builtin .append := by
  obtain ⟨dst, op, ty, pos, aft, g⟩ := o
  cases op with
  | load t a => exact .inl ⟨t, a, rfl⟩
  | makeSlice t l k =>
    simp only [hcl] at h
    split at h <;> simp_all
  | buildSlice t l k =>
    simp only [hcl] at h
    cases hh : hMark ck <;> rw [hh] at h <;> simp at h
  | call c =>
    simp only [hcl] at h
    split at h
    · simp at h
    · rename_i e; exact .inr ⟨c, rfl, e⟩
    · simp at h
    · split at h
      · split at h <;> simp at h
      · simp at h
    · simp at h
  | _ => simp [hcl] at h
theorem appendM_H {t : Nat} {x : Operand} {tt t2 : TypeId} {c : Prop} {v : AV} {u : Option (Nat × AV)} (h : appendM P fr H t x tt t2 = some (c, v, u, H1)) : H1 = H := by
  unfold appendM at h
  split at h
  · split at h
    · split at h
      · rw [Bool.cond_eq_ite] at h
        split at h
        · simp at h; exact h.2.2.2.symm
        · simp at h
      · simp at h
    · split at h
      · rw [Bool.cond_eq_ite] at h
        split at h
        · simp at h; exact h.2.2.2.symm
        · simp at h
      · simp at h
    · split at h
      · split at h
        · rw [Bool.cond_eq_ite] at h
          split at h
          · simp at h; exact h.2.2.2.symm
          · simp at h
        · simp at h
      · simp at h
    · rw [Bool.cond_eq_ite] at h
      split at h
      · simp at h; exact h.2.2.2.symm
      · simp at h
    · simp at h
  · simp at h
theorem pureM_H {o : Oper} {c : Prop} {v : AV} {u : Option (Nat × AV)} (h : pureM P fr H o = some (c, v, u, H1)) : H1 = H := by
  unfold pureM at h
  split at h
  · simp only [Option.some.injEq, Prod.mk.injEq] at h
    exact h.2.2.2.symm
  · simp at h
theorem evN_h1 {tk : Bool} {ck : Option CallK} {o : Oper} {c : Prop} {v : AV} {u : Option (Nat × AV)} (hz : Nat.ble (hcl ck o) 1 = true) (h : evN P tk ck fr H o = some (c, v, u, H1)) : H1 = H := by
  have hz := Nat.le_of_ble_eq_true hz
  by_cases h0 : hcl ck o = 0
  · exact (evN_h0 h0 h).1
  · rcases hcl_ld (show hcl ck o = 1 by omega) with ⟨t, a, e⟩ | ⟨cc, e, e1⟩
    · obtain ⟨dst, op, ty, pos, aft, g⟩ := o
      subst e
      have h : pureM P fr H ⟨dst, .load t a, ty, pos, aft, g⟩ = _ := h
      exact pureM_H h
    · obtain ⟨dst, op, ty, pos, aft, g⟩ := o
      simp only at e
      subst e
      have hm : hMark ck = false := by
        simp only [hcl, e1] at hz h0
        cases hh : hMark ck
        · rfl
        · rw [hh] at hz; simp at hz
      simp only [evN, e1, hm, cond_false] at h
      split at h
      · exact appendM_H h
      · simp_all
      · exact pureM_H h
      · simp_all
      · simp at h
theorem evM_fr {tk : Bool} {ck : Option CallK} {o : Oper} (h : ∀ t, t ∈ opSlots o → fr' t = fr t) : evM P tk ck fr' H o = evM P tk ck fr H o := by
  unfold evM
  split
  · rename_i t a k e
    unfold loadK
    rw [opd_eq (P := P) h a (by rw [e]; simp [Op.operands])]
  · rw [evN_fr h]
theorem evM_u {tk : Bool} {ck : Option CallK} {o : Oper} {c : Prop} {v : AV} {t : Nat} {x : AV} (h : evM P tk ck fr H o = some (c, v, some (t, x), H1)) : t ∈ takes tk o := by
  unfold evM at h
  split at h
  · exact absurd (loadK_h h).1 (by simp)
  · obtain ⟨c0, v0, h0, _⟩ := ovr_inv h
    exact evN_u h0
theorem ovr_re (ck : Option CallK) (o : Oper) (H2 : Heap) (r : R4) : ovr ck o (reH H2 r) = reH H2 (ovr ck o r) := by
  unfold ovr
  cases ck with
  | none => rfl
  | some k =>
    simp only
    cases hb : (isCV o || hMark (some k))
    · cases r <;> rfl
    · rfl
theorem evM_re {tk : Bool} {ck : Option CallK} {o : Oper} (hz : hcl ck o = 0) (H H2 : Heap) : evM P tk ck fr H2 o = reH H2 (evM P tk ck fr H o) := by
  unfold evM
  split
  · rename_i e
    simp [hcl, e] at hz
  · rw [evN_re hz H H2, ovr_re]
theorem evM_h0 {tk : Bool} {ck : Option CallK} {o : Oper} {c : Prop} {v : AV} {u : Option (Nat × AV)} (hz : hcl ck o = 0) (h : evM P tk ck fr H o = some (c, v, u, H1)) : H1 = H ∧ ∀ H2, evM P tk ck fr H2 o = some (c, v, u, H2) := by
  constructor
  · have := evM_re (P := P) (tk := tk) (fr := fr) hz H H
    rw [h] at this
    simp only [reH, Option.some.injEq, Prod.mk.injEq] at this
    exact this.2.2.2
  · intro H2
    rw [evM_re hz H H2, h]; rfl
theorem evM_h1 {tk : Bool} {ck : Option CallK} {o : Oper} {c : Prop} {v : AV} {u : Option (Nat × AV)} (hz : Nat.ble (hcl ck o) 1 = true) (h : evM P tk ck fr H o = some (c, v, u, H1)) : H1 = H := by
  unfold evM at h
  split at h
  · exact (loadK_h h).2
  · obtain ⟨c0, v0, h0, _⟩ := ovr_inv h
    exact evN_h1 hz h0
end Go.Am
set_option linter.unusedSectionVars false
set_option linter.unusedVariables false
set_option linter.unusedSimpArgs false
namespace Go.Am
open Go
variable [Tab]
variable {P : Program} {n k0 : Nat} {fr fr1 fr2 fr' : Fr} {H H1 H2 : Heap} {f : FuncId} {S : List Item} {res : AV} {H' : Heap} {ops : Array Oper}

def slotsOf (ops : Array Oper) (o : Oper) : List Nat := opSlots o ++ gSlot ops o
def writes (tk : Bool) (o : Oper) : List Nat := takes tk o ++ (match o.dst with | some d => [d] | none => [])
def apL (fr : Fr) : List (Nat × AV) → Fr
  | [] => fr
  | (t, x) :: r => apL (fr.set t x) r
theorem set_ne {fr : Fr} {t i : Nat} {x : AV} (h : i ≠ t) : fr.set t x i = fr i := by
  unfold Fr.set
  cases hb : Nat.beq i t with
  | true => exact absurd (Nat.eq_of_beq_eq_true hb) h
  | false => rfl
theorem set_eq (fr : Fr) (t : Nat) (x : AV) : fr.set t x t = x := by unfold Fr.set; rw [Nat.beq_refl]; rfl
theorem apL_ne {i : Nat} : ∀ {δ : List (Nat × AV)} {fr : Fr}, (∀ p, p ∈ δ → i ≠ p.1) → apL fr δ i = fr i
  | [], fr, _ => rfl
  | (t, x) :: r, fr, h => by
    show apL (fr.set t x) r i = _
    rw [apL_ne fun p hp => h p (by simp [hp]), set_ne (h (t, x) (by simp))]
theorem apL_congr {i : Nat} : ∀ {δ : List (Nat × AV)} {fr fr' : Fr}, (fr i = fr' i) → apL fr δ i = apL fr' δ i
  | [], fr, fr', h => h
  | (t, x) :: r, fr, fr', h => by
    show apL (fr.set t x) r i = apL (fr'.set t x) r i
    refine apL_congr ?_
    by_cases e : i = t
    · subst e; rw [set_eq, set_eq]
    · rw [set_ne e, set_ne e]; exact h
theorem apL_comm {d1 d2 : List (Nat × AV)} (h : ∀ p q, p ∈ d1 → q ∈ d2 → p.1 ≠ q.1) (fr : Fr) : apL (apL fr d2) d1 = apL (apL fr d1) d2 := by
  funext i
  by_cases h1 : ∃ p, p ∈ d1 ∧ i = p.1
  · obtain ⟨p, hp, rfl⟩ := h1
    have h2 : ∀ fr, apL fr d2 p.1 = fr p.1 := fun fr => apL_ne fun q hq => h p q hp hq
    rw [h2, apL_congr (h2 fr)]
  · have h3 : ∀ fr, apL fr d1 i = fr i := fun fr => apL_ne fun p hp e => h1 ⟨p, hp, e⟩
    rw [h3, apL_congr (h3 fr)]
theorem gOK_fr {o : Oper} (h : ∀ t, t ∈ gSlot ops o → fr' t = fr t) : gOK ops fr' o = gOK ops fr o := by
  unfold gOK
  unfold gSlot at h
  split
  · rfl
  · rename_i j want e
    rw [e] at h
    simp only at h
    split
    · rename_i s hs
      rw [hs] at h
      rw [h s (by simp)]
    · rfl
theorem stepE_spec {tk : Bool} {ck : Option CallK} {o : Oper} {c : Prop} (h : stepE P n tk ck ops o fr H = some (c, fr1, H1)) :
    ∃ δ, (∀ p, p ∈ δ → p.1 ∈ writes tk o) ∧ fr1 = apL fr δ ∧ (∀ fr', (∀ t, t ∈ slotsOf ops o → fr' t = fr t) → stepE P n tk ck ops o fr' H = some (c, apL fr' δ, H1)) ∧
      (Nat.ble (hcl ck o) 1 = true → H1 = H) ∧ (hcl ck o = 0 → ∀ fr' H2, (∀ t, t ∈ slotsOf ops o → fr' t = fr t) → stepE P n tk ck ops o fr' H2 = some (c, apL fr' δ, H2)) := by
  have hg : ∀ fr', (∀ t, t ∈ slotsOf ops o → fr' t = fr t) → gOK ops fr' o = gOK ops fr o := fun fr' h => gOK_fr fun t ht => h t (by simp [slotsOf, ht])
  have he : ∀ fr' H, (∀ t, t ∈ slotsOf ops o → fr' t = fr t) → evM P tk ck fr' H o = evM P tk ck fr H o := fun fr' H h => evM_fr fun t ht => h t (by simp [slotsOf, ht])
  unfold stepE at h
  split at h
  · rename_i hg1
    split at h
    · rename_i c' v H2 e
      split at h
      · rename_i d hd
        rw [Bool.cond_eq_ite] at h
        split at h
        · rename_i hlt
          rw [AV.force_eq] at h
          simp only [Option.some.injEq, Prod.mk.injEq] at h
          obtain ⟨rfl, rfl, rfl⟩ := h
          refine ⟨[(d, v)], by simp [writes, hd], rfl, fun fr' k => ?_, fun hz => evM_h1 hz e, fun hz fr' H2 k => ?_⟩
          · unfold stepE; rw [hg fr' k, hg1, he fr' H k, e]; simp only [hd, hlt, cond_true, AV.force_eq]; rfl
          · unfold stepE; rw [hg fr' k, hg1, he fr' H2 k, (evM_h0 hz e).2 H2]; simp only [hd, hlt, cond_true, AV.force_eq]; rfl
        · simp at h
      · rename_i hd
        simp only [Option.some.injEq, Prod.mk.injEq] at h
        obtain ⟨rfl, rfl, rfl⟩ := h
        refine ⟨[], by simp, rfl, fun fr' k => ?_, fun hz => evM_h1 hz e, fun hz fr' H2 k => ?_⟩
        · unfold stepE; rw [hg fr' k, hg1, he fr' H k, e]; simp only [hd]; rfl
        · unfold stepE; rw [hg fr' k, hg1, he fr' H2 k, (evM_h0 hz e).2 H2]; simp only [hd]; rfl
    · rename_i c' v t x H2 e
      have ht := evM_u e
      split at h
      · rename_i d hd
        rw [Bool.cond_eq_ite] at h
        split at h
        · rename_i hlt
          rw [AV.force_eq] at h
          simp only [Option.some.injEq, Prod.mk.injEq] at h
          obtain ⟨rfl, rfl, rfl⟩ := h
          refine ⟨[(t, x), (d, v)], by simp [writes, hd, ht], rfl, fun fr' k => ?_, fun hz => evM_h1 hz e, fun hz fr' H2 k => ?_⟩
          · unfold stepE; rw [hg fr' k, hg1, he fr' H k, e]; simp only [hd, hlt, cond_true, AV.force_eq]; rfl
          · unfold stepE; rw [hg fr' k, hg1, he fr' H2 k, (evM_h0 hz e).2 H2]; simp only [hd, hlt, cond_true, AV.force_eq]; rfl
        · simp at h
      · rename_i hd
        simp only [Option.some.injEq, Prod.mk.injEq] at h
        obtain ⟨rfl, rfl, rfl⟩ := h
        refine ⟨[(t, x)], by simp [writes, ht], rfl, fun fr' k => ?_, fun hz => evM_h1 hz e, fun hz fr' H2 k => ?_⟩
        · unfold stepE; rw [hg fr' k, hg1, he fr' H k, e]; simp only [hd]; rfl
        · unfold stepE; rw [hg fr' k, hg1, he fr' H2 k, (evM_h0 hz e).2 H2]; simp only [hd]; rfl
    · simp at h
  · rename_i hg1
    split at h
    · rename_i d hd
      rw [Bool.cond_eq_ite] at h
      split at h
      · rename_i hlt
        simp only [Option.some.injEq, Prod.mk.injEq] at h
        obtain ⟨rfl, rfl, rfl⟩ := h
        refine ⟨[(d, .tup [])], by simp [writes, hd], rfl, fun fr' k => ?_, fun hz => rfl, fun hz fr' H2 k => ?_⟩
        · unfold stepE; rw [hg fr' k, hg1]; simp only [hd, hlt, cond_true]; rfl
        · unfold stepE; rw [hg fr' k, hg1]; simp only [hd, hlt, cond_true]; rfl
      · simp at h
    · rename_i hd
      simp only [Option.some.injEq, Prod.mk.injEq] at h
      obtain ⟨rfl, rfl, rfl⟩ := h
      refine ⟨[], by simp, rfl, fun fr' k => ?_, fun hz => rfl, fun hz fr' H2 k => ?_⟩
      · unfold stepE; rw [hg fr' k, hg1]; simp only [hd]; rfl
      · unfold stepE; rw [hg fr' k, hg1]; simp only [hd]; rfl
  · simp at h
/-- may two operations change places? -/
def indep0 (ops : Array Oper) (tk1 tk2 : Bool) (ck1 ck2 : Option CallK) (o1 o2 : Oper) : Bool :=
  (writes tk1 o1).all (fun t => !(slotsOf ops o2).contains t && !(writes tk2 o2).contains t) && (writes tk2 o2).all (fun t => !(slotsOf ops o1).contains t) &&
  (Nat.beq (hcl ck1 o1) 0 || Nat.beq (hcl ck2 o2) 0 || (Nat.ble (hcl ck1 o1) 1 && Nat.ble (hcl ck2 o2) 1))
theorem swap0 {tk1 tk2 : Bool} {ck1 ck2 : Option CallK} {o1 o2 : Oper} {c1 c2 : Prop} (hi : indep0 ops tk1 tk2 ck1 ck2 o1 o2 = true) (h1 : stepE P n tk1 ck1 ops o1 fr H = some (c1, fr1, H1)) (h2 : stepE P n tk2 ck2 ops o2 fr1 H1 = some (c2, fr2, H2)) :
    ∃ fr1' H1', stepE P n tk2 ck2 ops o2 fr H = some (c2, fr1', H1') ∧ stepE P n tk1 ck1 ops o1 fr1' H1' = some (c1, fr2, H2) := by
  obtain ⟨d1, a1, rfl, a2, a3, a4⟩ := stepE_spec h1
  obtain ⟨d2, b1, rfl, b2, b3, b4⟩ := stepE_spec h2
  simp only [indep0, Bool.and_eq_true, List.all_eq_true, Bool.not_eq_true', Bool.or_eq_true, List.contains_eq_mem, decide_eq_false_iff_not] at hi
  obtain ⟨⟨i1, i2⟩, i3⟩ := hi
  have hc : apL (apL fr d2) d1 = apL (apL fr d1) d2 := apL_comm (fun p q hp hq e => (i1 p.1 (a1 p hp)).2 (e ▸ b1 q hq)) fr
  have k2 : ∀ t, t ∈ slotsOf ops o2 → fr t = apL fr d1 t := fun t ht => (apL_ne fun p hp e => (i1 p.1 (a1 p hp)).1 (e ▸ ht)).symm
  have k1 : ∀ t, t ∈ slotsOf ops o1 → apL fr d2 t = fr t := fun t ht => apL_ne fun p hp e => i2 p.1 (b1 p hp) (e ▸ ht)
  rcases i3 with (i3 | i3) | i3
  · have z := Nat.eq_of_beq_eq_true i3
    have e1 : H1 = H := a3 (by rw [z]; rfl)
    subst e1
    exact ⟨_, _, b2 fr k2, by rw [a4 z _ H2 k1, hc]⟩
  · have z := Nat.eq_of_beq_eq_true i3
    have e1 : H2 = H1 := b3 (by rw [z]; rfl)
    subst e1
    exact ⟨_, _, b4 z fr H k2, by rw [a2 _ k1, hc]⟩
  · have e1 : H1 = H := a3 i3.1
    subst e1
    have e2 : H2 = H1 := b3 i3.2
    subst e2
    exact ⟨_, _, b2 fr k2, by rw [a2 _ k1, hc]⟩
/-- a bare move: from where, to where -/
def mvOf (o : Oper) : Option (Nat × Nat) := match o.op, o.guard, o.dst with
  | .move (.tmp t), none, some d => bif Nat.beq d t then none else some (t, d)
  | _, _, _ => none
def mvRes (tk : Bool) (a : AV) : AV × AV := match tk, a with
  | true, .bs s true => (.bs s true, .bs s false)
  | true, .sl sz m el true => (.sl sz m el true, .sl sz m el false)
  | true, .tup vs => (.tup vs, .tup (vs.map un1))
  | _, a => (un a, a)
theorem set_id (fr : Fr) (t : Nat) : fr.set t (fr t) = fr := by
  funext i
  by_cases e : i = t
  · subst e; rw [set_eq]
  · rw [set_ne e]
theorem mvOf_some {o : Oper} {t d : Nat} (h : mvOf o = some (t, d)) : o.op = .move (.tmp t) ∧ o.guard = none ∧ o.dst = some d ∧ d ≠ t := by
  unfold mvOf at h
  split at h
  · rename_i t' d' e1 e2 e3
    rw [Bool.cond_eq_ite] at h
    split at h
    · simp at h
    · rename_i hb
      simp only [Option.some.injEq, Prod.mk.injEq] at h
      obtain ⟨rfl, rfl⟩ := h
      exact ⟨e1, e2, e3, fun e => hb (by rw [e]; exact Nat.beq_refl _)⟩
  · simp at h
theorem mv_step {tk : Bool} {o : Oper} {t d : Nat} (h : mvOf o = some (t, d)) (fr : Fr) (H : Heap) : stepE P n tk none ops o fr H = bif Nat.blt d n then some (True, (fr.set t (mvRes tk (fr t)).2).set d (mvRes tk (fr t)).1, H) else none := by
  obtain ⟨e1, e2, e3, e4⟩ := mvOf_some h
  have hp : pureM P fr H o = some (True, un (fr t), none, H) := by unfold pureM evP; rw [e1]; rfl
  have hm : evM P tk none fr H o = (match tk, fr t with
      | true, .bs s true => some (True, .bs s true, some (t, .bs s false), H)
      | true, .sl sz m el true => some (True, .sl sz m el true, some (t, .sl sz m el false), H)
      | true, .tup vs => some (True, .tup vs, some (t, .tup (vs.map un1)), H)
      | _, a => some (True, un a, none, H)) := by
    have : evM P tk none fr H o = bif tk then takeM P fr H o t else pureM P fr H o := by
      unfold evM
      rw [e1]
      simp only [ovr, evN, e1]
    rw [this]
    cases tk
    · exact hp
    · simp only [cond_true]
      unfold takeM
      rw [hp]
      generalize fr t = a
      cases a with
      | bs s o => cases o <;> rfl
      | sl sz m el o => cases o <;> rfl
      | _ => rfl
  have hg : gOK ops fr o = some true := by unfold gOK; rw [e2]
  unfold stepE
  rw [hg, hm]
  simp only [e3]
  have hid := set_id fr t
  generalize hfr : fr t = a at hid
  have key : ∀ v : AV, (bif Nat.blt d n then v.force fun v => some (True, fr.set d v, H) else none) = (bif Nat.blt d n then some (True, (fr.set t a).set d v, H) else (none : R3)) := fun v => by
    rw [AV.force_eq, hid]
  have key2 : ∀ v x : AV, (bif Nat.blt d n then v.force fun v => some (True, (fr.set t x).set d v, H) else none) = (bif Nat.blt d n then some (True, (fr.set t x).set d v, H) else (none : R3)) := fun v x => by
    rw [AV.force_eq]
  cases tk
  · exact key _
  · cases a with
    | bs s o => cases o
                · exact key _
                · exact key2 _ _
    | sl sz m el o => cases o
                      · exact key _
                      · exact key2 _ _
    | tup vs => exact key2 _ _
    | _ => exact key _
theorem un_left (tk : Bool) (a : AV) : un (mvRes tk a).2 = un a := by
  have h1 : ∀ x : AV, un1 (un1 x) = un1 x := fun x => by cases x <;> rfl
  cases tk
  · rfl
  · cases a with
    | bs s o => cases o <;> rfl
    | sl sz m el o => cases o <;> rfl
    | tup vs =>
      show AV.tup ((vs.map un1).map un1) = AV.tup (vs.map un1)
      rw [List.map_map]
      congr 1
      exact List.map_congr_left fun x _ => h1 x
    | _ => rfl
/-- two moves out of one slot, of which one takes the room at most -/
def indepMv (tk1 tk2 : Bool) (ck1 ck2 : Option CallK) (o1 o2 : Oper) : Bool := match mvOf o1, mvOf o2, ck1, ck2 with
  | some (t1, d1), some (t2, d2), none, none => Nat.beq t1 t2 && !Nat.beq d1 d2 && !(tk1 && tk2)
  | _, _, _, _ => false
def indep (ops : Array Oper) (tk1 tk2 : Bool) (ck1 ck2 : Option CallK) (o1 o2 : Oper) : Bool := indep0 ops tk1 tk2 ck1 ck2 o1 o2 || indepMv tk1 tk2 ck1 ck2 o1 o2
theorem swap {tk1 tk2 : Bool} {ck1 ck2 : Option CallK} {o1 o2 : Oper} {c1 c2 : Prop} (hi : indep ops tk1 tk2 ck1 ck2 o1 o2 = true) (h1 : stepE P n tk1 ck1 ops o1 fr H = some (c1, fr1, H1)) (h2 : stepE P n tk2 ck2 ops o2 fr1 H1 = some (c2, fr2, H2)) :
    ∃ fr1' H1', stepE P n tk2 ck2 ops o2 fr H = some (c2, fr1', H1') ∧ stepE P n tk1 ck1 ops o1 fr1' H1' = some (c1, fr2, H2) := by
  unfold indep at hi
  rw [Bool.or_eq_true] at hi
  rcases hi with hi | hi
  · exact swap0 hi h1 h2
  · unfold indepMv at hi
    split at hi
    · rename_i t1 d1 t2 d2 e1 e2
      simp only [Bool.and_eq_true, Bool.not_eq_true'] at hi
      obtain ⟨⟨i1, i2⟩, i3⟩ := hi
      have i1 := Nat.eq_of_beq_eq_true i1
      subst i1
      have hd : d1 ≠ d2 := fun e => by rw [e, Nat.beq_refl] at i2; cases i2
      have n1 := (mvOf_some e1).2.2.2
      have n2 := (mvOf_some e2).2.2.2
      rw [mv_step e1, Bool.cond_eq_ite] at h1
      split at h1
      · rename_i b1
        simp only [Option.some.injEq, Prod.mk.injEq] at h1
        obtain ⟨rfl, rfl, rfl⟩ := h1
        rw [mv_step e2, Bool.cond_eq_ite] at h2
        split at h2
        · rename_i b2
          simp only [Option.some.injEq, Prod.mk.injEq] at h2
          obtain ⟨rfl, rfl, rfl⟩ := h2
          refine ⟨_, _, by rw [mv_step e2, b2]; rfl, ?_⟩
          rw [mv_step e1, b1]
          simp only [cond_true, Option.some.injEq, Prod.mk.injEq, true_and, and_true]
          rw [set_ne n1.symm, set_eq, set_ne n2.symm, set_eq]
          have hv : (mvRes tk1 (mvRes tk2 (fr t1)).2).1 = (mvRes tk1 (fr t1)).1 ∧ (mvRes tk2 (mvRes tk1 (fr t1)).2).1 = (mvRes tk2 (fr t1)).1 ∧ (mvRes tk1 (mvRes tk2 (fr t1)).2).2 = (mvRes tk2 (mvRes tk1 (fr t1)).2).2 := by
            cases tk1
            · cases tk2
              · exact ⟨rfl, rfl, rfl⟩
              · exact ⟨un_left true _, rfl, rfl⟩
            · cases tk2
              · exact ⟨rfl, un_left true _, rfl⟩
              · cases i3
          funext i
          by_cases h1 : i = d1
          · subst h1
            rw [set_eq, hv.1, set_ne hd, set_ne n1, set_eq]
          · rw [set_ne h1]
            by_cases h2 : i = t1
            · subst h2
              rw [set_eq, set_ne n2.symm, set_eq, hv.2.2]
            · rw [set_ne h2]
              by_cases h3 : i = d2
              · subst h3; rw [set_eq, set_eq, hv.2.1]
              · rw [set_ne h3, set_ne h2, set_ne h3, set_ne h2, set_ne h1, set_ne h2]
        · simp at h2
      · simp at h1
    · simp at hi
/-- some order of operations does this, and what must hold holds -/
def Ev (P : Program) (n : Nat) (K : List (Nat × CallK)) (nt : List Nat) (ops : Array Oper) (is : List Nat) (fr : Fr) (H : Heap) (fr' : Fr) (H' : Heap) : Prop := ∃ c : Prop, evR P n K nt ops is fr H = some (c, fr', H') ∧ c
variable {K : List (Nat × CallK)} {nt : List Nat}
theorem Ev.cons {i : Nat} {is : List Nat} : Ev P n K nt ops (i :: is) fr H fr' H' ↔ ∃ (o : Oper) (c : Prop) (fr1 : Fr) (H1 : Heap), ops[i]? = some o ∧ stepE P n (!(nt.contains i)) (ckOf K i) ops o fr H = some (c, fr1, H1) ∧ c ∧ Ev P n K nt ops is fr1 H1 fr' H' := by
  constructor
  · rintro ⟨c, h, hc⟩
    unfold evR at h
    split at h
    · rename_i o ho
      split at h
      · rename_i c1 fr2 H2 h1
        split at h
        · rename_i c2 fr3 H3 h2
          simp only [Option.some.injEq, Prod.mk.injEq] at h
          obtain ⟨rfl, rfl, rfl⟩ := h
          exact ⟨o, c1, fr2, H2, ho, h1, hc.1, c2, h2, hc.2⟩
        · simp at h
      · simp at h
    · simp at h
  · rintro ⟨o, c, fr1, H1, h1, h2, hc, c2, h3, hc2⟩
    refine ⟨c ∧ c2, ?_, hc, hc2⟩
    unfold evR
    rw [h1]; simp only
    rw [h2]; simp only
    rw [h3]
def indepAt (K : List (Nat × CallK)) (nt : List Nat) (ops : Array Oper) (i j : Nat) : Bool := match ops[i]?, ops[j]? with
  | some o1, some o2 => indep ops (!(nt.contains i)) (!(nt.contains j)) (ckOf K i) (ckOf K j) o1 o2
  | _, _ => false
theorem Ev.swap {i j : Nat} {is : List Nat} (hi : indepAt K nt ops i j = true) (h : Ev P n K nt ops (i :: j :: is) fr H fr' H') : Ev P n K nt ops (j :: i :: is) fr H fr' H' := by
  obtain ⟨o1, c1, fr1, H1, e1, s1, k1, h⟩ := Ev.cons.1 h
  obtain ⟨o2, c2, fr2, H2, e2, s2, k2, h⟩ := Ev.cons.1 h
  simp only [indepAt, e1, e2] at hi
  obtain ⟨fr1', H1', s3, s4⟩ := Am.swap hi s1 s2
  exact Ev.cons.2 ⟨o2, c2, fr1', H1', e2, s3, k2, Ev.cons.2 ⟨o1, c1, fr2, H2, e1, s4, k1, h⟩⟩
theorem Ev.front {i : Nat} {B : List Nat} : ∀ {A : List Nat} {fr : Fr} {H : Heap}, (∀ a, a ∈ A → indepAt K nt ops a i = true) → Ev P n K nt ops (A ++ i :: B) fr H fr' H' → Ev P n K nt ops (i :: (A ++ B)) fr H fr' H'
  | [], fr, H, _, h => h
  | a :: A, fr, H, hA, h => by
    obtain ⟨o1, c1, fr1, H1, e1, s1, k1, h⟩ := Ev.cons.1 h
    have h2 := Ev.front (fun b hb => hA b (by simp [hb])) h
    exact Ev.swap (hA a (by simp)) (Ev.cons.2 ⟨o1, c1, fr1, H1, e1, s1, k1, h2⟩)

/-! ### What must stand before -/
def dirs (o : Oper) : List Nat := (o.after.toList.filter (Region.binds .any)).map (·.on)
def cloL : List Oper → List (List Nat) → List (List Nat)
  | [], acc => acc
  | o :: r, acc => cloL r (acc ++ [(dirs o ++ (dirs o).flatMap fun j => acc.getD j []).eraseDups])
def lower : List Oper → Nat → Bool
  | [], _ => true
  | o :: r, i => (dirs o).all (fun j => Nat.blt j i) && lower r (i + 1)
def commOK (K : List (Nat × CallK)) (nt : List Nat) (ops : Array Oper) : Bool :=
  let cl := cloL ops.toList []
  lower ops.toList 0 && (List.range ops.size).all fun i => (List.range i).all fun j => (cl.getD i []).contains j || indepAt K nt ops j i
def Closed (ops : Array Oper) (listed : Nat → Bool) : Prop := ∀ k o, ops[k]? = some o → listed k = true → ∀ j, j ∈ dirs o → listed j = true
theorem cloL_spec {ops : Array Oper} {listed : Nat → Bool} (hc : Closed ops listed) : ∀ (r : List Oper) (acc : List (List Nat)), (∀ (q : Nat) (o : Oper), r[q]? = some o → ops[acc.length + q]? = some o) →
    (∀ (k : Nat) (l : List Nat) (o : Oper), acc[k]? = some l → ops[k]? = some o → (∀ j, j ∈ dirs o → listed j = true) → ∀ j, j ∈ l → listed j = true) →
    ∀ (k : Nat) (l : List Nat) (o : Oper), (cloL r acc)[k]? = some l → ops[k]? = some o → (∀ j, j ∈ dirs o → listed j = true) → ∀ j, j ∈ l → listed j = true
  | [], acc, _, h => h
  | o :: r, acc, hr, h => by
    unfold cloL
    refine cloL_spec hc r _ (fun q o' e => ?_) fun k l o' e1 e2 hd j hj => ?_
    · have := hr (q + 1) o' (by simpa using e)
      simpa [Nat.add_assoc, Nat.add_comm 1 q] using this
    · rcases Nat.lt_or_ge k acc.length with hk | hk
      · rw [List.getElem?_append_left hk] at e1
        exact h k l o' e1 e2 hd j hj
      · rw [List.getElem?_append_right hk] at e1
        have hk0 : k - acc.length = 0 := by
          have := (List.getElem?_eq_some_iff.1 e1).1
          simp at this; omega
        rw [hk0] at e1
        simp only [List.getElem?_cons_zero, Option.some.injEq] at e1
        have hkk : k = acc.length := by omega
        have ho := hr 0 o (by simp)
        rw [Nat.add_zero, ← hkk, e2] at ho
        simp only [Option.some.injEq] at ho
        subst ho
        rw [← e1, List.mem_eraseDups, List.mem_append, List.mem_flatMap] at hj
        rcases hj with hj | ⟨m, hm, hj⟩
        · exact hd j hj
        · have hml := hd m hm
          rw [List.getD_eq_getElem?_getD] at hj
          cases e3 : acc[m]? with
          | none => rw [e3] at hj; simp at hj
          | some l2 =>
            rw [e3] at hj
            cases e4 : ops[m]? with
            | none =>
              exfalso
              have h1 := (List.getElem?_eq_some_iff.1 e3).1
              have h2 := (Array.getElem?_eq_some_iff.1 e2).1
              rw [Array.getElem?_eq_none_iff] at e4
              omega
            | some om => exact h m l2 om e3 e4 (hc m om e4 hml) j (by simpa using hj)
theorem lower_spec : ∀ (r : List Oper) (i : Nat), lower r i = true → ∀ q o, r[q]? = some o → ∀ j, j ∈ dirs o → j < i + q
  | [], i, _, q, o, h => by simp at h
  | o :: r, i, hl, q, o', h => by
    simp only [lower, Bool.and_eq_true, List.all_eq_true] at hl
    cases q with
    | zero =>
      simp only [List.getElem?_cons_zero, Option.some.injEq] at h
      subst h
      exact fun j hj => Nat.le_of_ble_eq_true (hl.1 j hj)
    | succ q =>
      intro j hj
      have := lower_spec r (i + 1) hl.2 q o' (by simpa using h) j hj
      omega
inductive Lin (ops : Array Oper) : (Nat → Bool) → List Nat → Prop where
  | nil (listed : Nat → Bool) : (∀ i o, ops[i]? = some o → listed i = false → ∃ j, j ∈ dirs o ∧ listed j = false) → Lin ops listed []
  | cons (listed : Nat → Bool) (i : Nat) (o : Oper) (is : List Nat) : ops[i]? = some o → listed i = false → (∀ j, j ∈ dirs o → listed j = true) → Lin ops (fun j => Nat.beq j i || listed j) is → Lin ops listed (i :: is)
def unl (ops : Array Oper) (listed : Nat → Bool) : List Nat := (List.range ops.size).filter fun i => !listed i
theorem Lin.ev (hk : commOK K nt ops = true) {listed : Nat → Bool} {is : List Nat} (h : Lin ops listed is) : ∀ {fr : Fr} {H : Heap}, Closed ops listed → Ev P n K nt ops (unl ops listed) fr H fr' H' → Ev P n K nt ops is fr H fr' H' := by
  simp only [commOK, Bool.and_eq_true, List.all_eq_true, List.mem_range] at hk
  obtain ⟨hlow, hk⟩ := hk
  induction h with
  | nil listed hn =>
    intro fr H hc he
    have : unl ops listed = [] := by
      have key : ∀ m i, i < m → i < ops.size → listed i = true := by
        intro m
        induction m with
        | zero => intro i hi; omega
        | succ m ih =>
          intro i hi hs
          cases hl : listed i with
          | true => rfl
          | false =>
            obtain ⟨j, hj, hl2⟩ := hn i ops[i] (Array.getElem?_eq_getElem hs) hl
            have hlt := lower_spec ops.toList 0 hlow i ops[i] (by simp [hs]) j hj
            rw [ih j (by omega) (by omega)] at hl2
            cases hl2
      unfold unl
      rw [List.filter_eq_nil_iff]
      intro i hi
      rw [key (i + 1) i (by omega) (by simpa using hi)]
      simp
    rw [this] at he
    exact he
  | cons listed i o is ho hl hd hlin ih =>
    intro fr H hc he
    have his := (Array.getElem?_eq_some_iff.1 ho).1
    have hsplit : List.range ops.size = List.range i ++ i :: List.range' (i + 1) (ops.size - (i + 1)) := by
      rw [List.range_eq_range', List.range_eq_range']
      have h1 : List.range' 0 ops.size = List.range' 0 i ++ List.range' (0 + i) (ops.size - i) := by
        rw [List.range'_append_1]; congr; omega
      rw [h1, Nat.zero_add]
      congr 1
      have : ops.size - i = (ops.size - (i + 1)) + 1 := by omega
      rw [this, List.range'_succ]
    have hu : unl ops listed = ((List.range i).filter fun j => !listed j) ++ i :: ((List.range' (i + 1) (ops.size - (i + 1))).filter fun j => !listed j) := by
      unfold unl
      rw [hsplit, List.filter_append, List.filter_cons]
      simp [hl]
    have hu2 : unl ops (fun j => Nat.beq j i || listed j) = ((List.range i).filter fun j => !listed j) ++ ((List.range' (i + 1) (ops.size - (i + 1))).filter fun j => !listed j) := by
      unfold unl
      rw [hsplit, List.filter_append, List.filter_cons]
      have hb : Nat.beq i i = true := Nat.beq_refl i
      simp only [hb, Bool.true_or, Bool.not_true]
      have hne : ∀ j, j ≠ i → Nat.beq j i = false := fun j hj => by
        cases hq : Nat.beq j i with
        | true => exact absurd (Nat.eq_of_beq_eq_true hq) hj
        | false => rfl
      congr 1
      · refine List.filter_congr fun j hj => ?_
        rw [hne j (by have := List.mem_range.1 hj; omega)]; simp
      · refine List.filter_congr fun j hj => ?_
        rw [hne j (by have := List.mem_range'_1.1 hj; omega)]; simp
    have hclo := cloL_spec hc ops.toList [] (fun q o h => by simpa using h) (fun k l o e => by simp at e)
    rw [hu] at he
    have he2 := Ev.front (fun a ha => by
      rw [List.mem_filter, List.mem_range] at ha
      have := hk i his a ha.1
      rw [Bool.or_eq_true] at this
      rcases this with h1 | h1
      · exfalso
        rw [List.getD_eq_getElem?_getD] at h1
        cases e : (cloL ops.toList [])[i]? with
        | none => rw [e] at h1; simp at h1
        | some l =>
          rw [e] at h1
          have := hclo i l o e ho hd a (by simpa using h1)
          rw [this] at ha
          simp at ha
      · exact h1) he
    obtain ⟨o', c, fr1, H1, e1, e2, e3, e4⟩ := Ev.cons.1 he2
    refine Ev.cons.2 ⟨o', c, fr1, H1, e1, e2, e3, ih ?_ (by rw [hu2]; exact e4)⟩
    intro k ok hk1 hk2 j hj
    rw [Bool.or_eq_true] at hk2 ⊢
    rcases hk2 with hk2 | hk2
    · have := Nat.eq_of_beq_eq_true hk2
      subst this
      rw [ho] at hk1; simp only [Option.some.injEq] at hk1; subst hk1
      exact .inr (hd j hj)
    · exact .inr (hc k ok hk1 hk2 j hj)
theorem go_lin (ops : Array Oper) : ∀ (fuel t : Nat) (listed : Array Bool), listed.size = ops.size → (unl ops fun i => listed.getD i false).length ≤ fuel → Lin ops (fun i => listed.getD i false) (Region.linearise.go .any ops fuel t listed []) := by
  have gd : ∀ (listed : Array Bool) i, listed.size = ops.size → i < ops.size → listed.getD i true = listed.getD i false := by
    intro listed i h1 h2
    simp [Array.getD_eq_getD_getElem?, Array.getElem?_eq_getElem (show i < listed.size by omega)]
  have rdy : ∀ (listed : Array Bool) i, listed.size = ops.size → (i ∈ Region.ready .any ops listed ↔ ∃ o, ops[i]? = some o ∧ listed.getD i false = false ∧ ∀ j, j ∈ dirs o → listed.getD j false = true) := by
    intro listed i h1
    unfold Region.ready
    rw [List.mem_filter, List.mem_range]
    constructor
    · rintro ⟨h2, h3⟩
      rw [gd listed i h1 h2, Bool.and_eq_true, Array.getElem?_eq_getElem h2] at h3
      refine ⟨ops[i], Array.getElem?_eq_getElem h2, by simpa using h3.1, fun j hj => ?_⟩
      simp only [dirs, List.mem_map, List.mem_filter] at hj
      obtain ⟨e, ⟨he1, he2⟩, rfl⟩ := hj
      have h4 := h3.2
      simp only [Option.map_some, Option.getD_some, Array.all_eq_true'] at h4
      have := h4 e (by simpa using he1)
      simpa [he2] using this
    · rintro ⟨o, h2, h3, h4⟩
      have hi := (Array.getElem?_eq_some_iff.1 h2).1
      refine ⟨hi, ?_⟩
      rw [gd listed i h1 hi, Bool.and_eq_true, h2]
      refine ⟨by simp [h3], ?_⟩
      simp only [Option.map_some, Option.getD_some, Array.all_eq_true']
      intro e he
      cases hb : Region.binds .any e with
      | false => rfl
      | true => simpa using h4 e.on (by simp only [dirs, List.mem_map, List.mem_filter]; exact ⟨e, ⟨by simpa using he, hb⟩, rfl⟩)
  intro fuel
  induction fuel with
  | zero =>
    intro t listed hs hu
    refine .nil _ fun i o ho hl => ?_
    exfalso
    have : i ∈ unl ops fun i => listed.getD i false := by
      unfold unl
      rw [List.mem_filter, List.mem_range]
      exact ⟨(Array.getElem?_eq_some_iff.1 ho).1, by simp [hl]⟩
    rw [List.eq_nil_of_length_eq_zero (Nat.le_zero.1 hu)] at this
    simp at this
  | succ fuel ih =>
    intro t listed hs hu
    simp only [Region.linearise.go]
    change Lin ops _ (match (Region.ready .any ops listed)[t % (Region.ready .any ops listed).length]? with
      | some i => Region.linearise.go .any ops fuel (t / (Region.ready .any ops listed).length) (listed.setIfInBounds i true) [i]
      | none => [].reverse)
    cases hi : (Region.ready .any ops listed)[t % (Region.ready .any ops listed).length]? with
    | none =>
      have hnil : Region.ready .any ops listed = [] := by
        cases hr : Region.ready .any ops listed with
        | nil => rfl
        | cons x xs =>
          rw [hr] at hi
          have hlt : t % (x :: xs).length < (x :: xs).length := Nat.mod_lt _ (by simp)
          simp at hi
          simp at hlt
          omega
      refine .nil _ fun i o ho hl => ?_
      refine Classical.byContradiction fun hno => ?_
      have : i ∈ Region.ready .any ops listed := (rdy listed i hs).2 ⟨o, ho, hl, fun j hj => by
        cases hq : listed.getD j false with
        | true => rfl
        | false => exact absurd ⟨j, hj, hq⟩ hno⟩
      rw [hnil] at this
      simp at this
    | some i =>
      simp only []
      obtain ⟨o, ho, hl, hd⟩ := (rdy listed i hs).1 (List.mem_of_getElem? hi)
      have hio := (Array.getElem?_eq_some_iff.1 ho).1
      rw [linearise_go_acc, List.reverse_singleton, List.singleton_append]
      refine .cons _ i o _ ho hl hd ?_
      have hset : (fun j => (listed.setIfInBounds i true).getD j false) = fun j => Nat.beq j i || listed.getD j false := by
        funext j
        simp only [Array.getD_eq_getD_getElem?]
        by_cases e : j = i
        · subst e
          rw [Array.getElem?_setIfInBounds_self_of_lt (by omega), Nat.beq_refl]; rfl
        · rw [Array.getElem?_setIfInBounds_ne (fun h => e h.symm)]
          cases hq : Nat.beq j i with
          | true => exact absurd (Nat.eq_of_beq_eq_true hq) e
          | false => rfl
      rw [← hset]
      refine ih _ _ (by simpa using hs) ?_
      rw [hset]
      have : (unl ops fun j => Nat.beq j i || listed.getD j false).length < (unl ops fun i => listed.getD i false).length := by
        unfold unl
        have e : (List.range ops.size).filter (fun j => !(Nat.beq j i || listed.getD j false)) = ((List.range ops.size).filter fun j => !listed.getD j false).filter fun j => !Nat.beq j i := by
          rw [List.filter_filter]
          refine List.filter_congr fun j _ => ?_
          cases Nat.beq j i <;> cases listed.getD j false <;> rfl
        rw [e]
        refine List.length_filter_lt_length_iff_exists.2 ⟨i, ?_, by simp [Nat.beq_refl]⟩
        rw [List.mem_filter, List.mem_range]
        exact ⟨hio, by simp [hl]⟩
      omega
/-- a region whose order is drawn: the text's order is as good as any -/
theorem Runs.regD {id : Nat} (K : List (Nat × CallK)) (nt : List Nat) {c : Prop} (hm : P.follows .mixedOrders = true) (hk : commOK K nt ops = true) (h : Am.evR P n K nt ops (List.range ops.size) fr H = some (c, fr1, H1)) (hc : c) (hr : Runs P f n k0 S fr1 H1 res H') :
    Runs P f n k0 (.code (.region id ops true) :: S) fr H res H' := by
  intro b a w G ρ h1 h2 h3 hkk h4 cs
  have hst := step_region_draw (P := P) (id := id) (ops := ops) (b := b) (a := a) (k := S) (cs := cs) (w := w)
  rw [hm] at hst
  simp only [Region.schedule, Bool.true_or, if_true] at hst
  generalize w.tape w.drawn (.order b.fn id) = t at hst
  have hl := go_lin ops ops.size t (Array.replicate ops.size false) (by simp) (by
    unfold unl
    exact Nat.le_trans (List.length_filter_le ..) (by simp))
  have hu : unl ops (fun i => (Array.replicate ops.size false).getD i false) = List.range ops.size := by
    unfold unl
    rw [List.filter_eq_self]
    intro i hi
    simp [Array.getD_eq_getD_getElem?, Array.getElem?_replicate, List.mem_range.1 hi]
  have he := hl.ev (P := P) (n := n) (fr := fr) (H := H) (fr' := fr1) (H' := H1) hk (fun k o _ e => by
    simp [Array.getD_eq_getD_getElem?, Array.getElem?_replicate] at e
    split at e <;> simp at e) (by rw [hu]; exact ⟨c, h, hc⟩)
  obtain ⟨c', e1, e2⟩ := he
  have hR : Runs P f n k0 (.inRegion ops (Region.linearise .any ops t) :: S) fr H res H' := Runs.rest K nt e1 e2 hr
  obtain ⟨v, w', G', ρ', frm, s1, s2, s3, s4⟩ := hR b a w.drew G ρ h1 h2 h3 hkk ⟨h4.size, fun i => ⟨(h4.fr i).1.keep (drew_keeps G w), (h4.fr i).2⟩, drew_br h4.br, drew_wi h4.wi⟩ cs
  exact ⟨v, w', G', ρ', frm, .head hst s1, s2, s3, (drew_trans G w).trans s4.1, s4.2⟩
end Go.Am
set_option linter.unusedSectionVars false
set_option linter.unusedVariables false
set_option linter.unusedSimpArgs false
namespace Go.Am
open Go
variable [Tab]
variable {P : Program} {n k0 : Nat} {fr fr1 fr' : Fr} {H H1 : Heap} {f : FuncId} {S : List Item} {res : AV} {H' : Heap} {ops : Array Oper}

def retL (P : Program) (fr : Fr) (H : Heap) : List ResultVar → (List AV → Option AV) → Option AV
  | [], k => k []
  | r :: rs, k => match resE1 P fr H r with
    | some x => x.force fun x => retL P fr H rs fun l => k (x :: l)
    | none => none
def retE (P : Program) (fr : Fr) (H : Heap) (rs : List ResultVar) : Option AV := retL P fr H rs fun l => match l with
  | [x] => some x
  | l => some (.tup l)
theorem retL_spec : ∀ {rs : List ResultVar} {k : List AV → Option AV} {v : AV}, retL P fr H rs k = some v → ∃ l, resList P fr H rs = some l ∧ k l = some v
  | [], k, v, h => ⟨[], rfl, h⟩
  | r :: rs, k, v, h => by
    unfold retL at h
    split at h
    · rename_i x e
      rw [AV.force_eq] at h
      obtain ⟨l, h1, h2⟩ := retL_spec h
      exact ⟨x :: l, by unfold resList; rw [e, h1], h2⟩
    · simp at h
theorem Runs.retV {fn : Func} {v : AV} (hf : P.funcs[f]? = some fn) (h : retE P fr H fn.results.toList = some v) (hn : nr v = true) (hr : v = res) : Runs P f n k0 (.code .ret :: S) fr H res H := by
  obtain ⟨l, h1, h2⟩ := retL_spec h
  subst hr
  refine Runs.ret hf h1 ?_ hn
  unfold tupE
  split at h2 <;> simp_all
theorem Runs.retH {fn : Func} {v : AV} (hf : P.funcs[f]? = some fn) (h : retE P fr H fn.results.toList = some v) (hn : nr v = true) (hr : v = res) (hh : H = H') : Runs P f n k0 (.code .ret :: S) fr H res H' := by
  subst hh; exact Runs.retV hf h hn hr
theorem Runs.condT {c : Operand} {x y : Code} (hc : opd P 0 fr c = .bool true) (h : Runs P f n k0 (.code x :: S) fr H res H') : Runs P f n k0 (.code (.cond c x y) :: S) fr H res H' := Runs.cond hc h
theorem Runs.condF {c : Operand} {x y : Code} (hc : opd P 0 fr c = .bool false) (h : Runs P f n k0 (.code y :: S) fr H res H') : Runs P f n k0 (.code (.cond c x y) :: S) fr H res H' := Runs.cond hc h
theorem Runs.condS {c : Operand} {x y : Code} {g : Bool} (hc : opd P 0 fr c = .bool g) (h1 : g = true → Runs P f n k0 (.code x :: S) fr H res H') (h2 : g = false → Runs P f n k0 (.code y :: S) fr H res H') : Runs P f n k0 (.code (.cond c x y) :: S) fr H res H' := Runs.cond hc (gd_split h1 h2)
theorem Runs.splitS (s : Nat) {g : Bool} (hs : fr s = .bool g) (h1 : g = true → Runs P f n k0 S (fr.set s (.bool true)) H res H') (h2 : g = false → Runs P f n k0 S (fr.set s (.bool false)) H res H') : Runs P f n k0 S fr H res H' := Runs.split s hs (gd_split h1 h2)
/-- where ways meet: the rest is shown once -/
theorem Runs.meet {σ : Type} (I : σ → Prop) (L : σ → List (Nat × AV)) (Hp : σ → Heap) {it : Item} (tail : ∀ s, I s → Runs P f n k0 S (frL (L s)) (Hp s) res H')
    (body : (∀ s fr' H1, I s → agree fr' (L s) → H1 = Hp s → Runs P f n k0 S fr' H1 res H') → Runs P f n k0 (it :: S) fr H res H') : Runs P f n k0 (it :: S) fr H res H' :=
  body fun s fr' H1 h1 h2 h3 => by subst h3; exact Runs.frame _ h2 (tail s h1)
theorem agree_cons {j : Nat} {v w : AV} {r : List (Nat × AV)} (h : (fr j).force some = some w) (hv : w = v) (hr : agree fr r) : agree fr ((j, v) :: r) := by
  rw [AV.force_eq] at h
  exact ⟨.inl (by rw [← hv]; simpa using h), hr⟩
theorem agree_imp {j : Nat} {v w : AV} {r : List (Nat × AV)} (h : (fr j).force some = some w) (hv : Imp w v) (h1 : noTup w = true) (h2 : noTup v = true) (hr : agree fr r) : agree fr ((j, v) :: r) := by
  rw [AV.force_eq] at h
  simp only [Option.some.injEq] at h
  subst h
  exact ⟨.inr ⟨hv, h1, h2⟩, hr⟩

/-! ### Numbers -/
theorem wrap_i64' (x : Int) : IntKind.i64.wrap x = (x + 9223372036854775808) % 18446744073709551616 - 9223372036854775808 := by
  simp only [IntKind.wrap, IntKind.bits, IntKind.signed, Bool.true_and]
  split <;> rename_i h <;> simp at h <;> omega
theorem wrap_i32 (x : Int) : IntKind.i32.wrap x = (x + 2147483648) % 4294967296 - 2147483648 := by
  simp only [IntKind.wrap, IntKind.bits, IntKind.signed, Bool.true_and]
  split <;> rename_i h <;> simp at h <;> omega
theorem wrap_u8 (x : Int) : IntKind.u8.wrap x = x % 256 := by simp [IntKind.wrap, IntKind.bits, IntKind.signed]
theorem wrap_u16 (x : Int) : IntKind.u16.wrap x = x % 65536 := by simp [IntKind.wrap, IntKind.bits, IntKind.signed]
theorem wrap_u32 (x : Int) : IntKind.u32.wrap x = x % 4294967296 := by simp [IntKind.wrap, IntKind.bits, IntKind.signed]
theorem wrap_u64 (x : Int) : IntKind.u64.wrap x = x % 18446744073709551616 := by simp [IntKind.wrap, IntKind.bits, IntKind.signed]
theorem i64_id {x : Int} (h1 : -9223372036854775808 ≤ x) (h2 : x < 9223372036854775808) : IntKind.i64.wrap x = x := by rw [wrap_i64']; omega
theorem u8_id {x : Int} (h1 : 0 ≤ x) (h2 : x < 256) : IntKind.u8.wrap x = x := by rw [wrap_u8]; omega
theorem bits_nat (k : IntKind) {a b : Nat} (ha : a < 2 ^ k.bits) (hb : b < 2 ^ k.bits) (hk : k.signed = false) :
    bitsE .and k a b = ((a &&& b : Nat) : Int) ∧ bitsE .or k a b = ((a ||| b : Nat) : Int) ∧ bitsE .xor k a b = ((a ^^^ b : Nat) : Int) := by
  have hw : ∀ x : Nat, x < 2 ^ k.bits → k.wrap (x : Int) = x := by
    intro x hx
    simp only [IntKind.wrap, hk, Bool.false_and, Bool.false_eq_true, if_false]
    exact Int.emod_eq_of_lt (Int.natCast_nonneg _) (by exact_mod_cast hx)
  have e : ∀ x : Nat, x < 2 ^ k.bits → (BitVec.ofInt k.bits (x : Int)).toNat = x := by
    intro x hx
    rw [BitVec.toNat_ofInt]
    have : ((x : Int) % ((2 ^ k.bits : Nat) : Int)) = (x : Int) := Int.emod_eq_of_lt (Int.natCast_nonneg _) (by exact_mod_cast hx)
    rw [this]; simp
  refine ⟨?_, ?_, ?_⟩
  · simp only [bitsE]
    rw [BitVec.toNat_and, e a ha, e b hb, hw _ (Nat.and_lt_two_pow _ hb)]
  · simp only [bitsE]
    rw [BitVec.toNat_or, e a ha, e b hb, hw _ (Nat.or_lt_two_pow ha hb)]
  · simp only [bitsE]
    rw [BitVec.toNat_xor, e a ha, e b hb, hw _ (Nat.xor_lt_two_pow ha hb)]
theorem tmodN (n : Nat) (b : Int) : (n : Int).tmod b = (n : Int) % b := Int.tmod_eq_emod_of_nonneg (Int.natCast_nonneg n)
theorem tdivN (n : Nat) (b : Int) : (n : Int).tdiv b = (n : Int) / b := Int.tdiv_eq_ediv_of_nonneg (Int.natCast_nonneg n)
theorem notT {b : Bool} : ((!b) = true) = (b = false) := by cases b <;> simp
theorem notF {b : Bool} : ((!b) = false) = (b = true) := by cases b <;> simp
theorem u8lt (c : UInt8) : c.toNat < 256 := c.toNat_lt
end Go.Am
set_option linter.unusedSectionVars false
set_option linter.unusedVariables false
set_option linter.unusedSimpArgs false
namespace Go.Am
open Go
variable [Tab]
variable {P : Program} {G : Gh} {w : World} {ρ : List Nat} {n k0 : Nat} {fr fr1 fr' : Fr} {H H1 : Heap} {f : FuncId} {S : List Item} {res : AV} {H' : Heap} {ops : Array Oper} {tmps : Array Value}

/-- a block of bytes becomes a slice of bytes that nobody writes any more -/
theorem Runs.freezeB (s : Nat) {id off m cp : Nat} {blk : List AV} (bs : List UInt8) (hs : fr s = .hs id off m cp) (hB : H[id]? = some blk) (hid : k0 ≤ id) (hcp : m ≤ cp) (hl : off + cp ≤ blk.length) (hp : ((blk.drop off).take m) = bs.map fun c => .int .u8 c.toNat)
    (hk : Runs P f n k0 S (fr.set s (.bs bs true)) (H.set id []) res H') : Runs P f n k0 S fr H res H' := by
  have hbl : bs.length = m := by
    have := congrArg List.length hp
    simp at this; omega
  refine Runs.freeze (ag := false) (sz := 1) s hs hB hid (.inr rfl) hcp (by omega) (by rw [Nat.mul_one, hp]; simp [pf]) ?_
  rw [Nat.mul_one, hp]
  refine Runs.conv s (a := .bs bs true) ?_ (.inr (by rw [set_eq]; simp)) (by simp) ?_
  · rw [set_eq]
    exact Imp.slB hbl.symm fun i hi => by
      simp [byteEl, elOf, List.getD_eq_getElem?_getD, List.getElem?_eq_getElem hi]
  · have : (fr.set s (.sl 1 m (elOf false 1 (bs.map fun c => .int .u8 c.toNat)) true)).set s (.bs bs true) = fr.set s (.bs bs true) := by
      funext i
      by_cases e : i = s
      · subst e; rw [set_eq, set_eq]
      · rw [set_ne e, set_ne e, set_ne e]
    rw [this]
    exact hk
/-! ### A contract at arguments that say more -/
def ArgsImp : List AV → List AV → Prop
  | [], [] => True
  | a :: r, b :: l => (Imp a b ∧ noTup a = true ∧ noTup b = true) ∧ ArgsImp r l
  | _, _ => False
theorem ArgsImp.at : ∀ {as bs : List AV}, ArgsImp as bs → as.length = bs.length ∧ ∀ (i : Nat) (b : AV), bs[i]? = some b → ∃ a, as[i]? = some a ∧ Imp a b ∧ noTup a = true ∧ noTup b = true
  | [], [], _ => ⟨rfl, fun i b h => by simp at h⟩
  | a :: r, b :: l, h => by
    obtain ⟨h1, h2⟩ := ArgsImp.at h.2
    refine ⟨by simp [h1], fun i c hc => ?_⟩
    cases i with
    | zero => simp at hc; subst hc; exact ⟨a, rfl, h.1⟩
    | succ i => exact h2 i c (by simpa using hc)
  | [], _ :: _, h => absurd h (by simp [ArgsImp])
  | _ :: _, [], h => absurd h (by simp [ArgsImp])
theorem FnOK.arg {args args' : List AV} (h : FnOK P f args' H res H') (hi : ArgsImp args args') : FnOK P f args H res H' := by
  obtain ⟨h1, h2⟩ := hi.at
  intro w G ρ vs hl ha hb hw
  refine h w G ρ vs (by rw [hl, h1]) (fun i c v e1 e2 => ?_) hb hw
  obtain ⟨a, e3, e4, e5, e6⟩ := h2 i c e1
  obtain ⟨k1, k2⟩ := ha i a v e3 e2
  obtain ⟨k3, k4⟩ := e4 G w ρ v k1
  rw [SpV_noTup e5] at k2
  exact ⟨k3, by rw [SpV_noTup e6]; exact k4 _ k2⟩
theorem Imp.un (a : AV) : Imp a a := Imp.refl a
end Go.Am
set_option linter.unusedSectionVars false
set_option linter.unusedVariables false
set_option linter.unusedSimpArgs false
namespace Go.Am
open Go Go.ChangeShapes Go.WideShapes Go.ChangeAt Go.RowKit
variable [Tab]
variable {P : Program} {f : FuncId}

/-- who owns what when the call begins: every old cell is the caller's -/
def G0 (w : World) : Gh := fun b o => if b < w.heap.size then (match w.cell? (mkA b o) with | some v => if v.oneCell' then .frz else .ctx | none => .ctx) else .free
theorem G0_old {w : World} {b : Nat} (h : b < w.heap.size) (o : Nat) : G0 w b o = .frz ∨ G0 w b o = .ctx := by
  unfold G0
  rw [if_pos h]
  split
  · split
    · exact .inl rfl
    · exact .inr rfl
  · exact .inr rfl
theorem G0_frz {w : World} {b o : Nat} {v : Value} (h : w.cell? (mkA b o) = some v) (h1 : v.oneCell' = true) : G0 w b o = .frz := by
  have hb : b < w.heap.size := by
    unfold World.cell? at h
    split at h
    · rename_i e; exact (Array.getElem?_eq_some_iff.1 e).1
    · simp at h
  unfold G0
  rw [if_pos hb, h]
  simp [h1]
/-- the known package variables hold what they are known to hold -/
def TabIn (w : World) : Prop := ∀ b cs, Tab.k b = some cs → ∃ e fz, w.heap[b]? = some (.cells cs e fz)
theorem G0_wi (w : World) (ht : TabIn w) : WI (G0 w) w := by
  refine ⟨fun b o h => ?_, fun b o h => ?_, fun b o v h hc => ?_, fun b cs e => ⟨ht b cs e, fun o => G0_old (by obtain ⟨_, _, h⟩ := ht b cs e; exact (Array.getElem?_eq_some_iff.1 h).1) o⟩⟩
  · by_cases hb : b < w.heap.size
    · rcases G0_old hb o with e | e <;> rw [e] at h <;> simp [Own.mine] at h
    · unfold G0 at h; rw [if_neg hb] at h; simp [Own.mine] at h
  · unfold G0; rw [if_neg (by omega)]
  · by_cases hb : b < w.heap.size
    · unfold G0 at h
      rw [if_pos hb, hc] at h
      simp only at h
      by_cases h1 : v.oneCell' = true
      · exact h1
      · rw [if_neg h1] at h; simp [Own.mine] at h
    · unfold G0 at h; rw [if_neg hb] at h; simp [Own.mine] at h
/-- a law: it returns true and leaves what was there -/
theorem FnOK.law {args : List AV} (h : FnOK P f args [] (.bool true) []) (w : World) (ht0 : TabIn w) (vs : List Value) (hl : vs.length = args.length) (ha : ∀ (i : Nat) (c : AV) (v : Value), args[i]? = some c → vs[i]? = some v → VR (G0 w) w [] c v ∧ nr c = true) :
    Calls P f vs.toArray w fun e w' => e = .returned (.bool true) ∧ Below w.heap.size w w' := by
  refine (h w (G0 w) [] vs hl (fun i c v h1 h2 => ⟨(ha i c v h1 h2).1, SpV_nr (ha i c v h1 h2).2⟩) ⟨rfl, fun id b blk j c h1 => by simp at h1⟩ (G0_wi w ht0)).mono ?_
  rintro e w' ⟨v, G', ρ', rfl, ht, _, _, _, hv, _⟩
  cases hv
  exact ⟨rfl, ht.os, ht.tape, ht.output, ht.size, fun k hk => ht.blk k hk fun o => G0_old hk o⟩

section
variable {H : Type} {enc : TypeId × Value → H}
theorem trodAll_stays (hl : laidOutB P = true) {W W' : World} {sp : Nat → Bool} : ∀ {ts : List TypeId} {vs : List Value} {ds : List (DataW H)} {p : List MemPlace}, (ts.all fun t => P.readableRec t && Nat.blt t P.types.size) = true →
    DataW.TrodAll enc P W 0 (fun _ => true) true ts vs ds p → (∀ x, x ∈ p → W.sameAt W' x ∧ sp x.block = true) → DataW.TrodAll enc P W' 0 sp true ts vs ds p
  | [], vs, ds, p, _, h, _ => by
    obtain ⟨rfl, rfl, rfl⟩ := trodAll_nil h
    exact trodAll_mk0
  | t :: ts, vs, ds, p, ht, h, hp => by
    simp only [List.all_cons, Bool.and_eq_true] at ht
    obtain ⟨v, vs', d, ds', p1, p2, rfl, rfl, rfl, h1, h2⟩ := trodAll_cons h
    exact trodAll_cons_mk (WideElems.Trod_stays hl ht.1.1 (Nat.le_of_ble_eq_true ht.1.2) h1 (fun x hx => (hp x (by simp [hx])).1) (fun x hx => (hp x (by simp [hx])).2))
      (trodAll_stays hl ht.2 h2 fun x hx => hp x (by simp [hx]))
theorem post_law {fn : Func} {s : ChangeSpec} {W W' : World} {args : Array Value} {ds gs : List (DataW H)} {before : List MemPlace} {t : TypeId} (hl : laidOutB P = true) (hW : DataW.Whole enc P fn.params.toList s.vars false W args.toList ds gs before)
    (hv : s.vars = []) (hfn : s.fn H (ds ++ gs) = { results := [.lit (.bool true)], args := ds }) (hres : fn.resultTypes = #[t]) (hb : P.underlying t = some .bool) (hp : (fn.params.toList.all fun t => P.readableRec t && Nat.blt t P.types.size) = true) (hB : Below W.heap.size W W') :
    s.post enc P fn false true false false W args (.bool true) W' := by
  have hlt := hW.lt
  have hW' := hW
  obtain ⟨p, q, hA, hV, rfl, hfz, hnd⟩ := hW
  rw [hv] at hV
  obtain ⟨rfl, rfl⟩ := trodVars_none hV
  refine ⟨ds, [], p ++ [], [], p, [], hW', ?_, ?_, ?_, World.keptBut_mono (fun x hx => hx.elim) (hB.frame fun _ => False), fun h => by cases h⟩
  · rw [hfn, hres]
    exact trodAll_cons_mk (shut_bool hb _) trodAll_mk0
  · rw [hfn]
    exact trodAll_stays hl hp hA fun x hx => ⟨hB.same (hlt x (by simp [hx])), by simpa using hlt x (by simp [hx])⟩
  · rw [hfn, hv]
    rfl
end
end Go.Am
