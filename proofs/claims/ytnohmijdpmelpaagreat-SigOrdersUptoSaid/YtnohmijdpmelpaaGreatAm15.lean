/- The abstract machine: literals. -/
import Derived.Test.YtnohmijdpmelpaaGreatAm14
set_option linter.unusedSectionVars false
set_option linter.unusedVariables false
set_option linter.unusedSimpArgs false
namespace Go.Am
open Go
variable [Tab]
variable {P : Program} {G : Gh} {w : World} {ρ : List Nat} {n : Nat} {fr : Fr} {H : Heap} {tmps : Array Value}

/-- no pointer inside -/
def pf : AV → Bool
  | .ptr .. => false
  | .hs .. => false
  | .agg _ => false
  | .tup _ => false
  | .bad => false
  | .fn _ cap => cap.isEmpty
  | .iface _ v => pf v
  | _ => true
theorem VR.pf {c : AV} {v : Value} (h : VR G w ρ c v) : pf c = true → ∀ ρ', VR G w ρ' c v := by
  induction h with
  | int => exact fun _ _ => .int ..
  | bool => exact fun _ _ => .bool ..
  | str => exact fun _ _ => .str ..
  | sl ρ sz n el own base cap vs hn hb hsz hc hv ih => exact fun _ _ => .sl _ _ _ _ _ _ _ vs hn hb hsz hc hv
  | bs ρ s own v h ih => exact fun _ _ => .bs _ _ _ _ h
  | hs => exact fun h => by simp [Am.pf] at h
  | ptr => exact fun h => by simp [Am.pf] at h
  | nilp => exact fun _ _ => .nilp _
  | cptr ρ v b o vs hc hv ih => exact fun _ _ => .cptr _ _ _ _ vs hc hv
  | fn ρ f cap vs hl hv ih =>
    intro h _
    simp [Am.pf] at h
    subst h
    exact .fn _ _ _ vs hl (fun q c v h => by simp at h)
  | nilfn => exact fun _ _ => .nilfn _
  | iface ρ t v x h ih => exact fun hp _ => .iface _ _ _ _ (ih (by simpa [Am.pf] using hp) _)
  | nili => exact fun _ _ => .nili _
  | agg => exact fun h => by simp [Am.pf] at h
  | tup => exact fun h => by simp [Am.pf] at h
  | bad => exact fun h => by simp [Am.pf] at h

/-! ### 1. 'fill' -/
theorem fold_set (off : Nat) : ∀ (xs : List Value) (i : Nat) (cells : Array Value), off + i + xs.length ≤ cells.size → ∀ j,
    ((xs.toArray.zipIdx i).foldl (fun cs (p : Value × Nat) => cs.setIfInBounds (off + p.2) p.1) cells)[j]? = if off + i ≤ j ∧ j < off + i + xs.length then xs[j - (off + i)]? else cells[j]?
  | [], i, cells, h, j => by
    have : (([] : List Value).toArray.zipIdx i) = ([] : List (Value × Nat)).toArray := by simp
    rw [if_neg (by simp only [List.length_nil]; omega), this]
    rfl
  | x :: xs, i, cells, h, j => by
    have hz : ((x :: xs).toArray.zipIdx i) = ((x, i) :: (xs.zipIdx (i + 1))).toArray := by simp
    have ih := fold_set off xs (i + 1) (cells.setIfInBounds (off + i) x) (by simp at h ⊢; omega) j
    have hz2 : xs.toArray.zipIdx (i + 1) = (xs.zipIdx (i + 1)).toArray := by simp
    rw [hz2] at ih
    rw [hz]
    simp only [List.foldl_toArray', List.foldl_cons] at ih ⊢
    rw [ih]
    simp only [List.length_cons] at h ⊢
    by_cases h1 : off + (i + 1) ≤ j ∧ j < off + (i + 1) + xs.length
    · rw [if_pos h1, if_pos (by omega)]
      rw [show j - (off + i) = (j - (off + (i + 1))) + 1 by omega, List.getElem?_cons_succ]
    · rw [if_neg h1]
      by_cases h2 : j = off + i
      · subst h2
        rw [if_pos (by omega)]
        have : off + i < cells.size := by omega
        simp [this]
      · rw [Array.getElem?_setIfInBounds_ne (by omega), if_neg (by omega)]
theorem fold_set_list (off : Nat) (xs : List Value) (cells : Array Value) (h : off + xs.length ≤ cells.size) :
    (xs.toArray.zipIdx.foldl (fun cs (p : Value × Nat) => cs.setIfInBounds (off + p.2) p.1) cells).toList = cells.toList.take off ++ (xs ++ cells.toList.drop (off + xs.length)) := by
  apply List.ext_getElem?
  intro j
  rw [Array.getElem?_toList, fold_set off xs 0 cells (by omega) j]
  simp only [Nat.add_zero]
  rcases Nat.lt_or_ge j off with h1 | h1
  · rw [if_neg (by omega), List.getElem?_append_left (by simp; omega), List.getElem?_take, if_pos h1, Array.getElem?_toList]
  · rw [List.getElem?_append_right (by simp; omega)]
    have e : (cells.toList.take off).length = off := by simp; omega
    rw [e]
    by_cases h2 : j < off + xs.length
    · rw [if_pos ⟨h1, h2⟩, List.getElem?_append_left (by omega)]
    · rw [if_neg (by omega), List.getElem?_append_right (by omega), List.getElem?_drop, show off + xs.length + (j - off - xs.length) = j by omega, Array.getElem?_toList]
def fillE (place : Nat → Option (Nat × Nat)) (cs : List AV) : List (Nat × AV) → Option (List AV)
  | [] => some cs
  | (i, x) :: r => match place i with
    | some (off, size) => bif Nat.beq x.cells.length size && Nat.ble (off + x.cells.length) cs.length && notTB x then fillE place (putCells cs off (x.cells.map un1)) r else none
    | none => none
theorem VRs.putCells {cs xs : List AV} {vs ws : List Value} {off : Nat} (h : VRs G w ρ cs vs) (k : VRs G w ρ xs ws) (hl : off + xs.length ≤ cs.length) :
    VRs G w ρ (putCells cs off xs) (vs.take off ++ (ws ++ vs.drop (off + ws.length))) := by
  have h1 := h.1
  have k1 := k.1
  refine ⟨by simp [Am.putCells]; omega, fun q c v e1 e2 => ?_⟩
  rw [putCells_at _ _ _ _ hl] at e1
  rcases Nat.lt_or_ge q off with hq | hq
  · rw [if_neg (by omega)] at e1
    rw [List.getElem?_append_left (by simp; omega), List.getElem?_take, if_pos hq] at e2
    exact h.2 q c v e1 e2
  · rw [List.getElem?_append_right (by simp; omega)] at e2
    have e : (vs.take off).length = off := by simp; omega
    rw [e] at e2
    by_cases h2 : q < off + xs.length
    · rw [if_pos ⟨hq, h2⟩] at e1
      rw [List.getElem?_append_left (by omega)] at e2
      exact k.2 _ c v e1 e2
    · rw [if_neg (by omega)] at e1
      rw [List.getElem?_append_right (by omega), List.getElem?_drop, show off + ws.length + (q - off - ws.length) = q by omega] at e2
      exact h.2 q c v e1 e2
theorem fill_sound (place : Nat → Option (Nat × Nat)) : ∀ (parts : List (Nat × AV)) (rp : List (Nat × Value)) (cs : List AV) (cells : Array Value) (out : List AV), fillE place cs parts = some out →
    rp.map (·.1) = parts.map (·.1) → (∀ (q : Nat) (p : Nat × AV) (r : Nat × Value), parts[q]? = some p → rp[q]? = some r → VR G w ρ p.2 r.2) → VRs G w ρ cs cells.toList →
    ∃ res : Array Value, Instr.fill place cells rp = some res ∧ VRs G w ρ out res.toList
  | [], rp, cs, cells, out, h, hm, hv, hc => by
    cases rp with
    | nil => simp [fillE] at h; subst h; exact ⟨cells, rfl, hc⟩
    | cons _ _ => simp at hm
  | (i, x) :: r, rp, cs, cells, out, h, hm, hv, hc => by
    cases rp with
    | nil => simp at hm
    | cons p rp =>
      simp only [List.map_cons, List.cons.injEq] at hm
      obtain ⟨hm1, hm2⟩ := hm
      have hx := hv 0 (i, x) p rfl rfl
      unfold fillE at h
      split at h
      · rename_i off size hp
        simp only [cond_eq_ite] at h
        split at h
        · rename_i hq
          simp only [Bool.and_eq_true] at hq
          obtain ⟨⟨q1, q2⟩, q3⟩ := hq
          have q1 := Nat.eq_of_beq_eq_true q1
          have q2 := Nat.le_of_ble_eq_true q2
          have hxs := hx.cells (notTB_ne q3).1 (notTB_ne q3).2
          have hsz : p.2.cells.size = size := by have := hxs.1; simp at this; omega
          have hcl : cells.size = cs.length := by have := hc.1; simpa using this
          have hfold := fold_set_list off p.2.cells.toList cells (by have := hxs.1; simp at this ⊢; omega)
          obtain ⟨res, e1, e2⟩ := fill_sound place r rp _ (p.2.cells.toList.toArray.zipIdx.foldl (fun cs (p : Value × Nat) => cs.setIfInBounds (off + p.2) p.1) cells) out h hm2
            (fun q p' r' h1 h2 => hv (q + 1) p' r' (by simpa using h1) (by simpa using h2)) (by rw [hfold]; exact hc.putCells hxs.un1 (by simpa using q2))
          refine ⟨res, ?_, e2⟩
          obtain ⟨p1, p2⟩ := p
          simp only at hm1 hsz e1
          subst hm1
          rw [Instr.fill, hp]
          simp only
          rw [if_neg (by simp [hsz]; omega)]
          simpa using e1
        · simp at h
      · simp at h
/-! ### 2. Struct and array literals -/
def placesOf (P : Program) : List Field → Option (List (Nat × Nat))
  | [] => some []
  | f :: r => match szT P f.type, placesOf P r with
    | some z, some l => some ((f.offset, z) :: l)
    | _, _ => none
theorem places_run (P : Program) (w : World) : ∀ {fs : List Field} {l : List (Nat × Nat)}, placesOf P fs = some l → (fs.mapM (m := Sem) fun f => do pure (f.offset, ← sizeOf f.type)).run P w = .ok l w
  | [], l, h => by simp [placesOf] at h; subst h; rfl
  | f :: r, l, h => by
    unfold placesOf at h
    split at h
    · rename_i z l2 h1 h2
      simp only [Option.some.injEq] at h; subst h
      have ih := places_run P w h2
      simp only [List.mapM_cons, Sem.run_bind, run_sizeOf h1, Result.andThen_ok, Sem.run_pure] at ih ⊢
      rw [ih]; rfl
    · simp at h
def buildE (P : Program) (t : TypeId) (parts : List (Nat × AV)) : Option AV :=
  match zeroE P t, P.underlying t with
  | some zs, some (.struct fs) => match placesOf P fs.toList with
    | some l => match fillE (fun i => l[i]?) zs parts with | some cs => some (.agg cs) | none => none
    | none => none
  | some zs, some (.array _ e) => match szT P e with
    | some z => match fillE (fun i => some (i * z, z)) zs parts with | some cs => some (.agg cs) | none => none
    | none => none
  | _, _ => none
theorem build_sound {t : TypeId} {parts : List (Nat × AV)} {rp : List (Nat × Value)} {v : AV} (h : buildE P t parts = some v) (hm : rp.map (·.1) = parts.map (·.1))
    (hv : ∀ (q : Nat) (p : Nat × AV) (r : Nat × Value), parts[q]? = some p → rp[q]? = some r → VR G w ρ p.2 r.2) :
    ∃ v', (Instr.build t rp.toArray).run P w = .ok v' w ∧ VR G w ρ v v' ∧ nr v = true := by
  unfold buildE at h
  split at h
  · rename_i zs fs hz hu
    split at h
    · rename_i l hl
      split at h
      · rename_i cs hf
        simp only [Option.some.injEq] at h; subst h
        obtain ⟨z, vs, i, h1, h2, h3, h4, h5, h6, h7⟩ := zero_sound hz
        obtain ⟨res, e1, e2⟩ := fill_sound (G := G) (w := w) (ρ := ρ) _ parts rp zs vs.toArray cs hf hm hv (by simpa using h6 G w ρ)
        refine ⟨.agg res, ?_, by have := VR.agg (G := G) (w := w) ρ cs res.toList e2.1 e2.2; simpa using this, rfl⟩
        have hpl : (fs.mapM (m := Sem) fun f => do pure (f.offset, ← sizeOf f.type)).run P w = .ok l.toArray w := by
          have := places_run P w hl
          rw [← Array.toArray_toList (xs := fs), List.mapM_toArray, Sem.run_map, this]
          rfl
        have hfun : (fun (i : Nat) => l[i]?) = fun (i : Nat) => l.toArray[i]? := by funext i; simp
        rw [hfun] at e1
        simp only [Instr.build, Sem.run_bind, zeroValue, run_ti h1, h2, Result.andThen_ok, Sem.run_pure, run_und hu, hpl, h3, e1]
      · simp at h
    · simp at h
  · rename_i zs m e hz hu
    split at h
    · rename_i z hs
      split at h
      · rename_i cs hf
        simp only [Option.some.injEq] at h; subst h
        obtain ⟨zv, vs, i, h1, h2, h3, h4, h5, h6, h7⟩ := zero_sound hz
        obtain ⟨res, e1, e2⟩ := fill_sound (G := G) (w := w) (ρ := ρ) _ parts rp zs vs.toArray cs hf hm hv (by simpa using h6 G w ρ)
        refine ⟨.agg res, ?_, by have := VR.agg (G := G) (w := w) ρ cs res.toList e2.1 e2.2; simpa using this, rfl⟩
        simp only [Instr.build, Sem.run_bind, zeroValue, run_ti h1, h2, Result.andThen_ok, Sem.run_pure, run_und hu, run_sizeOf hs, h3, e1]
      · simp at h
    · simp at h
  · simp at h
def partsE (P : Program) (t : TypeId) (fr : Fr) (parts : Array (Nat × Operand)) : List (Nat × AV) := parts.toList.map fun p => (p.1, opd P t fr p.2)
theorem parts_rel {t : TypeId} {a : Act} (hf : FR G w ρ fr a.tmps) (parts : Array (Nat × Operand)) :
    ((parts.toList.map fun p => (p.1, a.eval p.2)).map (·.1)) = (partsE P t fr parts).map (·.1) ∧
    (∀ (q : Nat) (p : Nat × AV) (r : Nat × Value), (partsE P t fr parts)[q]? = some p → (parts.toList.map fun p => (p.1, a.eval p.2))[q]? = some r → VR G w ρ p.2 r.2) := by
  refine ⟨by simp [partsE, Function.comp_def], fun q p r h1 h2 => ?_⟩
  unfold partsE at h1
  rw [List.getElem?_map, Option.map_eq_some_iff] at h1 h2
  obtain ⟨x, hx, rfl⟩ := h1
  obtain ⟨y, hy, rfl⟩ := h2
  rw [hx] at hy; simp at hy; subst hy
  exact VR.opd hf _
theorem OpSem.build {o : Oper} {t : TypeId} {parts : Array (Nat × Operand)} {v : AV} (ho : o.op = .build t parts) (h : buildE P t (partsE P 0 fr parts) = some v) : OpSem P o fr H v fr H := by
  refine OpSem.same (fun a w G ρ n hi => ?_) (fun G t x => ?_)
  · obtain ⟨e1, e2⟩ := parts_rel (P := P) (t := 0) hi.fr parts
    obtain ⟨v', h1, h2, _⟩ := build_sound (P := P) h e1 e2
    refine ⟨v', ?_, h2⟩
    have : (parts.map fun (x : Nat × Operand) => (x.1, a.eval x.2)) = (parts.toList.map fun p => (p.1, a.eval p.2)).toArray := by
      apply Array.ext'; simp
    simp only [execOp, ho, this]
    simp [h1]
  · have : nr v = true := by
      unfold buildE at h
      split at h
      · split at h
        · split at h
          · simp only [Option.some.injEq] at h; subst h; rfl
          · simp at h
        · simp at h
      · split at h
        · split at h
          · simp only [Option.some.injEq] at h; subst h; rfl
          · simp at h
        · simp at h
      · simp at h
    exact SpV_nr this
end Go.Am
