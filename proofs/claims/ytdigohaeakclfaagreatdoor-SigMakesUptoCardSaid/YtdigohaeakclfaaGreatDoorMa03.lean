/- The abstract machine: stores. The abstract machine: literals. The abstract machine: new slices; 'append'. The abstract machine: steps that make slices. -/
import Derived.Test.YtdigohaeakclfaaGreatDoorMa02
import Derived.Laws.AppendOwn
set_option linter.unusedSectionVars false
set_option linter.unusedVariables false
set_option linter.unusedSimpArgs false
namespace Go.Am
open Go
variable [Tab]
variable {P : Program} {G : Gh} {w : World} {ρ : List Nat} {n : Nat} {fr : Fr} {H : Heap} {tmps : Array Value}

theorem setCells_fix (b : Nat) : ∀ (vs : List Value) (o : Nat) (w : World), (w.setCells b o vs).os = w.os ∧ (w.setCells b o vs).tape = w.tape ∧ (w.setCells b o vs).output = w.output ∧ (w.setCells b o vs).heap.size = w.heap.size ∧ ∀ b', b' ≠ b → (w.setCells b o vs).heap[b']? = w.heap[b']?
  | [], _, _ => ⟨rfl, rfl, rfl, rfl, fun _ _ => rfl⟩
  | v :: r, o, w => by
    obtain ⟨h1, h2, h3, h4, h5⟩ := setCells_fix b r (o + 1) (w.setCell ⟨b, o, none⟩ v)
    refine ⟨h1, h2, h3, by rw [World.setCells, h4]; simp [World.setCell], fun b' hb => ?_⟩
    rw [World.setCells, h5 b' hb]
    have hne : ¬ b = b' := fun h => hb h.symm
    simp [World.setCell, Array.getElem?_modify, hne]
/-- cells that are owned are written -/
structure Wr (G : Gh) (w : World) (b off : Nat) (vs : List Value) : Prop where
  mine : ∀ q, q < vs.length → (G b (off + q)).mine = true
  one : ∀ v, v ∈ vs → v.oneCell' = true
variable {b off : Nat} {vs : List Value}
theorem Wr.runs (h : Wr G w b off vs) (hw : WI G w) : (storeCells (mkA b off) vs).run P w = .ok () (w.setCells b off vs) :=
  run_storeCells_cells b off vs 0 w (fun j hj => (hw.own _ _ (h.mine j hj)).1) (fun j hj => (hw.own _ _ (h.mine j hj)).2) h.one
theorem Wr.far (h : Wr G w b off vs) {b' o' : Nat} (hn : (G b' o').mine = false) : (w.setCells b off vs).cell? (mkA b' o') = w.cell? (mkA b' o') := by
  refine World.cell?_setCells_out b vs off w _ (fun e _ => ?_)
  simp only [mkA] at e ⊢
  subst e
  rcases Nat.lt_or_ge o' off with h1 | h1
  · exact .inl h1
  · rcases Nat.lt_or_ge o' (off + vs.length) with h2 | h2
    · have := h.mine (o' - off) (by omega)
      rw [show off + (o' - off) = o' by omega, hn] at this
      cases this
    · exact .inr h2
theorem Wr.out {b' o' : Nat} (hn : b' ≠ b ∨ o' < off ∨ off + vs.length ≤ o') : (w.setCells b off vs).cell? (mkA b' o') = w.cell? (mkA b' o') := by
  refine World.cell?_setCells_out b vs off w _ (fun e _ => ?_)
  simp only [mkA] at e ⊢
  exact hn.resolve_left (fun h => h e)
theorem Wr.at_ (h : Wr G w b off vs) (hw : WI G w) {q : Nat} (hq : q < vs.length) : (w.setCells b off vs).cell? (mkA b (off + q)) = some vs[q] :=
  World.cell?_setCells_in b vs off w (fun j hj => (hw.own _ _ (h.mine j hj)).1) q hq
theorem Wr.keeps (h : Wr G w b off vs) : Keeps G w G (w.setCells b off vs) := fun b' o' e => ⟨e, h.far (by rw [e]; rfl)⟩
theorem Wr.trans (h : Wr G w b off vs) : Trans G w G (w.setCells b off vs) where
  os := (setCells_fix b vs off w).1
  tape := (setCells_fix b vs off w).2.1
  output := (setCells_fix b vs off w).2.2.1
  size := Nat.le_of_eq (setCells_fix b vs off w).2.2.2.1.symm
  frz _ _ e := e
  ctx _ _ e := e
  cell b' o' e := ⟨h.far (by rcases e with e | e <;> rw [e] <;> rfl), World.frozen?_setCells ..⟩
  blk b' _ e := by
    by_cases hb : b' = b
    · subst hb
      cases vs with
      | nil => rfl
      | cons v r =>
        have := h.mine 0 (by simp)
        rcases e (off + 0) with e | e <;> rw [e] at this <;> cases this
    · exact (setCells_fix b vs off w).2.2.2.2 b' hb
  fz _ _ e1 e2 := absurd e2 e1
theorem Wr.wi (h : Wr G w b off vs) (hw : WI G w) : WI G (w.setCells b off vs) where
  own b' o' hm := by
    obtain ⟨h1, h2⟩ := hw.own b' o' hm
    refine ⟨?_, by rw [World.frozen?_setCells]; exact h2⟩
    by_cases hc : b' ≠ b ∨ o' < off ∨ off + vs.length ≤ o'
    · rw [Wr.out hc]; exact h1
    · have hb : b' = b := by omega
      subst hb
      have := h.at_ hw (q := o' - off) (by omega)
      rw [show off + (o' - off) = o' by omega] at this
      rw [this]; rfl
  old b' o' hb := hw.old b' o' (by rw [(setCells_fix b vs off w).2.2.2.1] at hb; exact hb)
  one b' o' v hm hc := by
    by_cases hq : b' ≠ b ∨ o' < off ∨ off + vs.length ≤ o'
    · rw [Wr.out hq] at hc; exact hw.one b' o' v hm hc
    · have hb : b' = b := by omega
      subst hb
      have := h.at_ hw (q := o' - off) (by omega)
      rw [show off + (o' - off) = o' by omega, hc] at this
      simp at this; subst this
      exact h.one _ (List.getElem_mem _)
  tab := hw.tab.trans h.trans
theorem Wr.frame (h : Wr G w b off vs) (hf : FR G w ρ fr tmps) : FR G (w.setCells b off vs) ρ fr tmps := fun i => ⟨(hf i).1.keep h.keeps, (hf i).2⟩

/-- the room of what was overwritten is nobody's -/
def clrT (id off m : Nat) : Own → Own
  | .spare i j => if i = id ∧ off ≤ j ∧ j < off + m then .free else .spare i j
  | x => x
theorem clrT_re (id off m : Nat) : ReTag (clrT id off m) := by
  constructor
  · intro x; cases x <;> simp [clrT]; split <;> simp
  · intro x; cases x <;> simp [clrT]; split <;> simp
  · rfl
  · intro x; cases x <;> simp [clrT, Own.mine]
def putCells (blk : List AV) (off : Nat) (xs : List AV) : List AV := blk.take off ++ (xs ++ blk.drop (off + xs.length))
theorem putCells_at (blk xs : List AV) (off j : Nat) (hl : off + xs.length ≤ blk.length) : (putCells blk off xs)[j]? = if off ≤ j ∧ j < off + xs.length then xs[j - off]? else blk[j]? := by
  unfold putCells
  rcases Nat.lt_or_ge j off with h | h
  · rw [List.getElem?_append_left (by simp; omega), List.getElem?_take, if_pos h, if_neg (by omega)]
  · rw [List.getElem?_append_right (by simp; omega)]
    have e : (blk.take off).length = off := by simp; omega
    rw [e]
    rcases Nat.lt_or_ge j (off + xs.length) with h2 | h2
    · rw [List.getElem?_append_left (by omega), if_pos ⟨h, h2⟩]
    · rw [List.getElem?_append_right (by omega), List.getElem?_drop, if_neg (by omega), show off + xs.length + (j - off - xs.length) = j by omega]
/-- a block's cells are written (what was owned there is lost) -/
theorem store_inv {id : Nat} {blk xs : List AV} (hi : Inv G w ρ n fr H tmps) (hr : ρ[id]? = some b) (hk : H[id]? = some blk) (hv : VRs G w ρ xs vs) (hc : xs.all isCell = true) (hs : ∀ x, x ∈ xs → ∀ G t v, Sp G t x v) (hl : off + xs.length ≤ blk.length) :
    Wr G w b off vs ∧ Inv (reG (clrT id off xs.length) G) (w.setCells b off vs) ρ n fr (H.set id (putCells blk off xs)) tmps := by
  have hlen := hv.1
  have hmine : ∀ q, q < vs.length → G b (off + q) = .cell id := fun q hq => by
    have hq2 : off + q < blk.length := by omega
    exact (hi.br.cell id b blk (off + q) blk[off + q] hr hk (List.getElem?_eq_getElem hq2)).1
  have hwr : Wr G w b off vs := ⟨fun q hq => by rw [hmine q hq]; rfl, hv.cell hc⟩
  have hkp : Keeps G w (reG (clrT id off xs.length) G) (w.setCells b off vs) := fun b' o' e => ⟨((clrT_re ..).frz _).2 e, (hwr.keeps b' o' e).2⟩
  refine ⟨hwr, hi.size, fun i => ⟨(hi.fr i).1.keep hkp, (hi.fr i).2.map fun c b o e => by unfold reG; rw [e]; rfl⟩, ⟨by rw [List.length_set]; exact hi.br.len, ?_⟩, (clrT_re ..).wi (hwr.wi hi.wi)⟩
  intro id' b' blk' j c h1 h2 h3
  rw [List.getElem?_set] at h2
  split at h2
  · rename_i hid
    subst hid
    rw [hr] at h1; simp at h1; subst h1
    split at h2
    · simp at h2; subst h2
      rw [putCells_at _ _ _ _ hl] at h3
      split at h3
      · rename_i hj
        have hjb : j < blk.length := by omega
        obtain ⟨e1, _⟩ := hi.br.cell id b blk j blk[j] hr hk (List.getElem?_eq_getElem hjb)
        have hjv : j - off < vs.length := by omega
        refine ⟨by unfold reG; rw [e1]; rfl, vs[j - off], ?_, (hv.2 _ c _ h3 (List.getElem?_eq_getElem hjv)).keep hkp, hs c (List.mem_of_getElem? h3) ..⟩
        have := hwr.at_ hi.wi hjv
        rwa [show off + (j - off) = j by omega] at this
      · rename_i hj
        obtain ⟨e1, v, e2, e3, e4⟩ := hi.br.cell id b blk j c hr hk h3
        refine ⟨by unfold reG; rw [e1]; rfl, v, by rw [Wr.out (by omega)]; exact e2, e3.keep hkp, e4.map fun b o e => ?_⟩
        unfold reG clrT
        rw [e]
        simp only
        rw [if_neg (by omega)]
    · simp at h2
  · rename_i hid
    obtain ⟨e1, v, e2, e3, e4⟩ := hi.br.cell id' b' blk' j c h1 h2 h3
    refine ⟨by unfold reG; rw [e1]; rfl, v, ?_, e3.keep hkp, e4.map fun b o e => ?_⟩
    · by_cases hq : b' ≠ b ∨ j < off ∨ off + vs.length ≤ j
      · rw [Wr.out hq]; exact e2
      · have hb : b' = b := by omega
        subst hb
        have := hmine (j - off) (by omega)
        rw [show off + (j - off) = j by omega, e1] at this
        simp at this
        exact absurd this.symm hid
    · unfold reG clrT
      rw [e]
      simp only
      rw [if_neg (by rintro ⟨h, _⟩; exact hid h.symm)]
theorem step_skip_sem {o : Oper} {fr1 : Fr} {H1 : Heap} (h : ∀ (a : Act) (w : World) (G : Gh) (ρ : List Nat) (n : Nat), Inv G w ρ n fr H a.tmps → ∃ w' G', (execOp a.eval o).run P w = .ok .skip w' ∧ Trans G w G' w' ∧ Inv G' w' ρ n fr1 H1 a.tmps) :
    OpSem P o fr H .bad fr1 H1 := by
  intro b a w G ρ n ops i rest k cs hoi hw hi
  obtain ⟨w', G', h1, h2, h3⟩ := h a w G ρ n hi
  exact ⟨undef, w', G', [], .one (step_skipV hoi hw h1), h2, by rw [List.append_nil]; exact ⟨h3, .bad .., by simp [SpV, Sp]⟩⟩
theorem run_storeAt {t : TypeId} {v : Value} (hz : szT P t = some v.cells.toList.length) (h : Wr G w b off v.cells.toList) (hw : WI G w) : (Instr.storeAt t (.pointer (some (mkA b off))) v).run P w = .ok () (w.setCells b off v.cells.toList) := by
  have := h.runs (P := P) hw
  simp only [Instr.storeAt, Instr.sureAddr, Sem.run_bind, Sem.run_pure, Result.andThen_ok, storeVar, run_sizeOf hz]
  simp only [Array.length_toList] at *
  simp [this]
theorem OpSem.store {o : Oper} {t : TypeId} {A X : Operand} {id off : Nat} {x : AV} {blk : List AV} (ho : o.op = .store t A X) (hA : opd P t fr A = .ptr id off) (hX : opd P t fr X = x)
    (hk : H[id]? = some blk) (h1 : notTB x = true) (h2 : x.cells.all isCell = true) (hz : szT P t = some x.cells.length) (hl : Nat.ble (off + x.cells.length) blk.length = true) :
    OpSem P o fr H .bad fr (H.set id (putCells blk off (x.cells.map un1))) := by
  refine step_skip_sem fun a w G ρ n hi => ?_
  have hv := VR.opd (P := P) (t := t) hi.fr X
  rw [hX] at hv
  have hp := VR.opd (P := P) (t := t) hi.fr A
  rw [hA] at hp
  obtain ⟨b, hr, hpe⟩ := hp.ptr_inv
  have hvs := hv.cells (notTB_ne h1).1 (notTB_ne h1).2
  have hl := Nat.le_of_ble_eq_true hl
  obtain ⟨hwr, hinv⟩ := store_inv hi hr hk hvs.un1 (by
    rw [List.all_eq_true] at h2 ⊢
    intro y hy
    obtain ⟨z, hz, rfl⟩ := List.mem_map.1 hy
    have := h2 z hz
    cases z <;> simp_all [Am.un1, isCell]) (fun y hy G t v => by obtain ⟨z, hz, rfl⟩ := List.mem_map.1 hy; exact Sp_un1 ..) (by simpa using hl)
  have hz2 : szT P t = some (a.eval X).cells.toList.length := by rw [hz, hvs.1]
  refine ⟨_, _, ?_, ?_, hinv⟩
  · have := run_storeAt (P := P) hz2 hwr hi.wi
    simp only [execOp, ho, hpe]
    simp [this]
  · exact (hwr.trans).trans ((clrT_re ..).trans _ _)
end Go.Am
set_option linter.unusedSectionVars false
set_option linter.unusedVariables false
set_option linter.unusedSimpArgs false
namespace Go.Am
open Go
variable [Tab]
variable {P : Program} {G : Gh} {w : World} {ρ : List Nat} {n : Nat} {fr : Fr} {H : Heap} {tmps : Array Value}

/-- no pointer inside -/
def pf : AV → Bool
  | .ptr .. => false
  | .hs .. => false
  | .agg _ => false
  | .tup _ => false
  | .bad => false
  | .fn _ cap => cap.isEmpty
  | .iface _ v => pf v
  | _ => true
theorem VR.pf {c : AV} {v : Value} (h : VR G w ρ c v) : pf c = true → ∀ ρ', VR G w ρ' c v := by
  induction h with
  | int => exact fun _ _ => .int ..
  | bool => exact fun _ _ => .bool ..
  | str => exact fun _ _ => .str ..
  | sl ρ sz n el own base cap vs hn hb hsz hc hv ih => exact fun _ _ => .sl _ _ _ _ _ _ _ vs hn hb hsz hc hv
  | bs ρ s own v h ih => exact fun _ _ => .bs _ _ _ _ h
  | hs => exact fun h => by simp [Am.pf] at h
  | ptr => exact fun h => by simp [Am.pf] at h
  | nilp => exact fun _ _ => .nilp _
  | cptr ρ v b o vs hc hv ih => exact fun _ _ => .cptr _ _ _ _ vs hc hv
  | fn ρ f cap vs hl hv ih =>
    intro h _
    simp [Am.pf] at h
    subst h
    exact .fn _ _ _ vs hl (fun q c v h => by simp at h)
  | bfn => exact fun h => by simp [Am.pf] at h
  | nilfn => exact fun _ _ => .nilfn _
  | nilsl => exact fun _ _ => .nilsl _
  | iface ρ t v x h ih => exact fun hp _ => .iface _ _ _ _ (ih (by simpa [Am.pf] using hp) _)
  | nili => exact fun _ _ => .nili _
  | agg => exact fun h => by simp [Am.pf] at h
  | tup => exact fun h => by simp [Am.pf] at h
  | bad => exact fun h => by simp [Am.pf] at h

/-! ### 1. 'fill' -/
theorem fold_set (off : Nat) : ∀ (xs : List Value) (i : Nat) (cells : Array Value), off + i + xs.length ≤ cells.size → ∀ j,
    ((xs.toArray.zipIdx i).foldl (fun cs (p : Value × Nat) => cs.setIfInBounds (off + p.2) p.1) cells)[j]? = if off + i ≤ j ∧ j < off + i + xs.length then xs[j - (off + i)]? else cells[j]?
  | [], i, cells, h, j => by
    have : (([] : List Value).toArray.zipIdx i) = ([] : List (Value × Nat)).toArray := by simp
    rw [if_neg (by simp only [List.length_nil]; omega), this]
    rfl
  | x :: xs, i, cells, h, j => by
    have hz : ((x :: xs).toArray.zipIdx i) = ((x, i) :: (xs.zipIdx (i + 1))).toArray := by simp
    have ih := fold_set off xs (i + 1) (cells.setIfInBounds (off + i) x) (by simp at h ⊢; omega) j
    have hz2 : xs.toArray.zipIdx (i + 1) = (xs.zipIdx (i + 1)).toArray := by simp
    rw [hz2] at ih
    rw [hz]
    simp only [List.foldl_toArray', List.foldl_cons] at ih ⊢
    rw [ih]
    simp only [List.length_cons] at h ⊢
    by_cases h1 : off + (i + 1) ≤ j ∧ j < off + (i + 1) + xs.length
    · rw [if_pos h1, if_pos (by omega)]
      rw [show j - (off + i) = (j - (off + (i + 1))) + 1 by omega, List.getElem?_cons_succ]
    · rw [if_neg h1]
      by_cases h2 : j = off + i
      · subst h2
        rw [if_pos (by omega)]
        have : off + i < cells.size := by omega
        simp [this]
      · rw [Array.getElem?_setIfInBounds_ne (by omega), if_neg (by omega)]
theorem fold_set_list (off : Nat) (xs : List Value) (cells : Array Value) (h : off + xs.length ≤ cells.size) :
    (xs.toArray.zipIdx.foldl (fun cs (p : Value × Nat) => cs.setIfInBounds (off + p.2) p.1) cells).toList = cells.toList.take off ++ (xs ++ cells.toList.drop (off + xs.length)) := by
  apply List.ext_getElem?
  intro j
  rw [Array.getElem?_toList, fold_set off xs 0 cells (by omega) j]
  simp only [Nat.add_zero]
  rcases Nat.lt_or_ge j off with h1 | h1
  · rw [if_neg (by omega), List.getElem?_append_left (by simp; omega), List.getElem?_take, if_pos h1, Array.getElem?_toList]
  · rw [List.getElem?_append_right (by simp; omega)]
    have e : (cells.toList.take off).length = off := by simp; omega
    rw [e]
    by_cases h2 : j < off + xs.length
    · rw [if_pos ⟨h1, h2⟩, List.getElem?_append_left (by omega)]
    · rw [if_neg (by omega), List.getElem?_append_right (by omega), List.getElem?_drop, show off + xs.length + (j - off - xs.length) = j by omega, Array.getElem?_toList]
def fillE (place : Nat → Option (Nat × Nat)) (cs : List AV) : List (Nat × AV) → Option (List AV)
  | [] => some cs
  | (i, x) :: r => match place i with
    | some (off, size) => bif Nat.beq x.cells.length size && Nat.ble (off + x.cells.length) cs.length && notTB x then fillE place (putCells cs off (x.cells.map un1)) r else none
    | none => none
theorem VRs.putCells {cs xs : List AV} {vs ws : List Value} {off : Nat} (h : VRs G w ρ cs vs) (k : VRs G w ρ xs ws) (hl : off + xs.length ≤ cs.length) :
    VRs G w ρ (putCells cs off xs) (vs.take off ++ (ws ++ vs.drop (off + ws.length))) := by
  have h1 := h.1
  have k1 := k.1
  refine ⟨by simp [Am.putCells]; omega, fun q c v e1 e2 => ?_⟩
  rw [putCells_at _ _ _ _ hl] at e1
  rcases Nat.lt_or_ge q off with hq | hq
  · rw [if_neg (by omega)] at e1
    rw [List.getElem?_append_left (by simp; omega), List.getElem?_take, if_pos hq] at e2
    exact h.2 q c v e1 e2
  · rw [List.getElem?_append_right (by simp; omega)] at e2
    have e : (vs.take off).length = off := by simp; omega
    rw [e] at e2
    by_cases h2 : q < off + xs.length
    · rw [if_pos ⟨hq, h2⟩] at e1
      rw [List.getElem?_append_left (by omega)] at e2
      exact k.2 _ c v e1 e2
    · rw [if_neg (by omega)] at e1
      rw [List.getElem?_append_right (by omega), List.getElem?_drop, show off + ws.length + (q - off - ws.length) = q by omega] at e2
      exact h.2 q c v e1 e2
theorem fill_sound (place : Nat → Option (Nat × Nat)) : ∀ (parts : List (Nat × AV)) (rp : List (Nat × Value)) (cs : List AV) (cells : Array Value) (out : List AV), fillE place cs parts = some out →
    rp.map (·.1) = parts.map (·.1) → (∀ (q : Nat) (p : Nat × AV) (r : Nat × Value), parts[q]? = some p → rp[q]? = some r → VR G w ρ p.2 r.2) → VRs G w ρ cs cells.toList →
    ∃ res : Array Value, Instr.fill place cells rp = some res ∧ VRs G w ρ out res.toList
  | [], rp, cs, cells, out, h, hm, hv, hc => by
    cases rp with
    | nil => simp [fillE] at h; subst h; exact ⟨cells, rfl, hc⟩
    | cons _ _ => simp at hm
  | (i, x) :: r, rp, cs, cells, out, h, hm, hv, hc => by
    cases rp with
    | nil => simp at hm
    | cons p rp =>
      simp only [List.map_cons, List.cons.injEq] at hm
      obtain ⟨hm1, hm2⟩ := hm
      have hx := hv 0 (i, x) p rfl rfl
      unfold fillE at h
      split at h
      · rename_i off size hp
        simp only [cond_eq_ite] at h
        split at h
        · rename_i hq
          simp only [Bool.and_eq_true] at hq
          obtain ⟨⟨q1, q2⟩, q3⟩ := hq
          have q1 := Nat.eq_of_beq_eq_true q1
          have q2 := Nat.le_of_ble_eq_true q2
          have hxs := hx.cells (notTB_ne q3).1 (notTB_ne q3).2
          have hsz : p.2.cells.size = size := by have := hxs.1; simp at this; omega
          have hcl : cells.size = cs.length := by have := hc.1; simpa using this
          have hfold := fold_set_list off p.2.cells.toList cells (by have := hxs.1; simp at this ⊢; omega)
          obtain ⟨res, e1, e2⟩ := fill_sound place r rp _ (p.2.cells.toList.toArray.zipIdx.foldl (fun cs (p : Value × Nat) => cs.setIfInBounds (off + p.2) p.1) cells) out h hm2
            (fun q p' r' h1 h2 => hv (q + 1) p' r' (by simpa using h1) (by simpa using h2)) (by rw [hfold]; exact hc.putCells hxs.un1 (by simpa using q2))
          refine ⟨res, ?_, e2⟩
          obtain ⟨p1, p2⟩ := p
          simp only at hm1 hsz e1
          subst hm1
          rw [Instr.fill, hp]
          simp only
          rw [if_neg (by simp [hsz]; omega)]
          simpa using e1
        · simp at h
      · simp at h
/-! ### 2. Struct and array literals -/
def placesOf (P : Program) : List Field → Option (List (Nat × Nat))
  | [] => some []
  | f :: r => match szT P f.type, placesOf P r with
    | some z, some l => some ((f.offset, z) :: l)
    | _, _ => none
theorem places_run (P : Program) (w : World) : ∀ {fs : List Field} {l : List (Nat × Nat)}, placesOf P fs = some l → (fs.mapM (m := Sem) fun f => do pure (f.offset, ← sizeOf f.type)).run P w = .ok l w
  | [], l, h => by simp [placesOf] at h; subst h; rfl
  | f :: r, l, h => by
    unfold placesOf at h
    split at h
    · rename_i z l2 h1 h2
      simp only [Option.some.injEq] at h; subst h
      have ih := places_run P w h2
      simp only [List.mapM_cons, Sem.run_bind, run_sizeOf h1, Result.andThen_ok, Sem.run_pure] at ih ⊢
      rw [ih]; rfl
    · simp at h
def buildE (P : Program) (t : TypeId) (parts : List (Nat × AV)) : Option AV :=
  match zeroE P t, P.underlying t with
  | some zs, some (.struct fs) => match placesOf P fs.toList with
    | some l => match fillE (fun i => l[i]?) zs parts with | some cs => some (.agg cs) | none => none
    | none => none
  | some zs, some (.array _ e) => match szT P e with
    | some z => match fillE (fun i => some (i * z, z)) zs parts with | some cs => some (.agg cs) | none => none
    | none => none
  | _, _ => none
theorem build_sound {t : TypeId} {parts : List (Nat × AV)} {rp : List (Nat × Value)} {v : AV} (h : buildE P t parts = some v) (hm : rp.map (·.1) = parts.map (·.1))
    (hv : ∀ (q : Nat) (p : Nat × AV) (r : Nat × Value), parts[q]? = some p → rp[q]? = some r → VR G w ρ p.2 r.2) :
    ∃ v', (Instr.build t rp.toArray).run P w = .ok v' w ∧ VR G w ρ v v' ∧ nr v = true := by
  unfold buildE at h
  split at h
  · rename_i zs fs hz hu
    split at h
    · rename_i l hl
      split at h
      · rename_i cs hf
        simp only [Option.some.injEq] at h; subst h
        obtain ⟨z, vs, i, h1, h2, h3, h4, h5, h6, h7⟩ := zero_sound hz
        obtain ⟨res, e1, e2⟩ := fill_sound (G := G) (w := w) (ρ := ρ) _ parts rp zs vs.toArray cs hf hm hv (by simpa using h6 G w ρ)
        refine ⟨.agg res, ?_, by have := VR.agg (G := G) (w := w) ρ cs res.toList e2.1 e2.2; simpa using this, rfl⟩
        have hpl : (fs.mapM (m := Sem) fun f => do pure (f.offset, ← sizeOf f.type)).run P w = .ok l.toArray w := by
          have := places_run P w hl
          rw [← Array.toArray_toList (xs := fs), List.mapM_toArray, Sem.run_map, this]
          rfl
        have hfun : (fun (i : Nat) => l[i]?) = fun (i : Nat) => l.toArray[i]? := by funext i; simp
        rw [hfun] at e1
        simp only [Instr.build, Sem.run_bind, zeroValue, run_ti h1, h2, Result.andThen_ok, Sem.run_pure, run_und hu, hpl, h3, e1]
      · simp at h
    · simp at h
  · rename_i zs m e hz hu
    split at h
    · rename_i z hs
      split at h
      · rename_i cs hf
        simp only [Option.some.injEq] at h; subst h
        obtain ⟨zv, vs, i, h1, h2, h3, h4, h5, h6, h7⟩ := zero_sound hz
        obtain ⟨res, e1, e2⟩ := fill_sound (G := G) (w := w) (ρ := ρ) _ parts rp zs vs.toArray cs hf hm hv (by simpa using h6 G w ρ)
        refine ⟨.agg res, ?_, by have := VR.agg (G := G) (w := w) ρ cs res.toList e2.1 e2.2; simpa using this, rfl⟩
        simp only [Instr.build, Sem.run_bind, zeroValue, run_ti h1, h2, Result.andThen_ok, Sem.run_pure, run_und hu, run_sizeOf hs, h3, e1]
      · simp at h
    · simp at h
  · simp at h
def partsE (P : Program) (t : TypeId) (fr : Fr) (parts : Array (Nat × Operand)) : List (Nat × AV) := parts.toList.map fun p => (p.1, opd P t fr p.2)
theorem parts_rel {t : TypeId} {a : Act} (hf : FR G w ρ fr a.tmps) (parts : Array (Nat × Operand)) :
    ((parts.toList.map fun p => (p.1, a.eval p.2)).map (·.1)) = (partsE P t fr parts).map (·.1) ∧
    (∀ (q : Nat) (p : Nat × AV) (r : Nat × Value), (partsE P t fr parts)[q]? = some p → (parts.toList.map fun p => (p.1, a.eval p.2))[q]? = some r → VR G w ρ p.2 r.2) := by
  refine ⟨by simp [partsE, Function.comp_def], fun q p r h1 h2 => ?_⟩
  unfold partsE at h1
  rw [List.getElem?_map, Option.map_eq_some_iff] at h1 h2
  obtain ⟨x, hx, rfl⟩ := h1
  obtain ⟨y, hy, rfl⟩ := h2
  rw [hx] at hy; simp at hy; subst hy
  exact VR.opd hf _
theorem OpSem.build {o : Oper} {t : TypeId} {parts : Array (Nat × Operand)} {v : AV} (ho : o.op = .build t parts) (h : buildE P t (partsE P 0 fr parts) = some v) : OpSem P o fr H v fr H := by
  refine OpSem.same (fun a w G ρ n hi => ?_) (fun G t x => ?_)
  · obtain ⟨e1, e2⟩ := parts_rel (P := P) (t := 0) hi.fr parts
    obtain ⟨v', h1, h2, _⟩ := build_sound (P := P) h e1 e2
    refine ⟨v', ?_, h2⟩
    have : (parts.map fun (x : Nat × Operand) => (x.1, a.eval x.2)) = (parts.toList.map fun p => (p.1, a.eval p.2)).toArray := by
      apply Array.ext'; simp
    simp only [execOp, ho, this]
    simp [h1]
  · have : nr v = true := by
      unfold buildE at h
      split at h
      · split at h
        · split at h
          · simp only [Option.some.injEq] at h; subst h; rfl
          · simp at h
        · simp at h
      · split at h
        · split at h
          · simp only [Option.some.injEq] at h; subst h; rfl
          · simp at h
        · simp at h
      · simp at h
    exact SpV_nr this
end Go.Am
set_option linter.unusedSectionVars false
set_option linter.unusedVariables false
set_option linter.unusedSimpArgs false
namespace Go.Am
open Go
variable [Tab]
variable {P : Program} {G G' : Gh} {w : World} {ρ : List Nat} {n : Nat} {fr : Fr} {H : Heap} {tmps : Array Value}

/-- less is owned, more is frozen -/
structure Sub (G G' : Gh) : Prop where
  frz : ∀ b o, G b o = .frz → G' b o = .frz
  ctx : ∀ b o, G b o = .ctx → G' b o = .ctx
  free : ∀ b o, G b o = .free → G' b o = .free
  mine : ∀ b o, (G' b o).mine = true → (G b o).mine = true
  new : ∀ b o, G' b o = .frz → G b o = .frz ∨ (G b o).mine = true
theorem Sub.keeps (h : Sub G G') (w : World) : Keeps G w G' w := fun b o e => ⟨h.frz b o e, rfl⟩
theorem Sub.trans (h : Sub G G') (k : ∀ b o, (G b o).mine = true → w.frozen? (mkA b o) = false) : Trans G w G' w := ⟨rfl, rfl, rfl, Nat.le_refl _, h.frz, h.ctx, fun _ _ _ => ⟨rfl, rfl⟩, fun _ _ _ => rfl, fun b o e1 e2 => k b o ((h.new b o e2).resolve_left e1)⟩
theorem Sub.wi (h : Sub G G') (k : WI G w) : WI G' w :=
  ⟨fun b o e => k.own b o (h.mine b o e), fun b o e => h.free b o (k.old b o e), fun b o v e => k.one b o v (e.elim (h.new b o) (fun e => .inr (h.mine b o e))), k.tab.trans (h.trans fun b o e => (k.own b o e).2)⟩
theorem drew_keeps (G : Gh) (w : World) : Keeps G w G w.drew := fun b o e => ⟨e, rfl⟩
theorem drew_trans (G : Gh) (w : World) : Trans G w G w.drew := ⟨rfl, rfl, rfl, Nat.le_refl _, fun _ _ e => e, fun _ _ e => e, fun _ _ _ => ⟨rfl, rfl⟩, fun _ _ _ => rfl, fun _ _ e1 e2 => absurd e2 e1⟩
theorem drew_wi (k : WI G w) : WI G w.drew := ⟨k.own, k.old, k.one, k.tab.trans (drew_trans G w)⟩
theorem drew_br (k : BR G w ρ H) : BR G w.drew ρ H := ⟨k.len, fun id b blk j c h1 h2 h3 => by
  obtain ⟨e, v, h4, h5, h6⟩ := k.cell id b blk j c h1 h2 h3
  exact ⟨e, v, h4, h5.keep (drew_keeps _ _), h6⟩⟩
theorem drew_fr (k : FR G w ρ fr tmps) : FR G w.drew ρ fr tmps := fun i => ⟨(k i).1.keep (drew_keeps _ _), (k i).2⟩
theorem drew_inv (k : Inv G w ρ n fr H tmps) : Inv G w.drew ρ n fr H tmps := ⟨k.size, drew_fr k.fr, drew_br k.br, drew_wi k.wi⟩

/-- a new row: so many elements are frozen, the rest is room -/
def rowT (m : Nat) : Nat → Own := fun o => if o < m then .frz else .res 0
theorem newSl {sz m cap : Nat} {el : Nat → AV} {vs : List Value} {e : TypeId} (hi : Inv G w ρ n fr H tmps) (h1 : ∀ v, v ∈ vs → v.oneCell' = true) (hl : vs.length = cap * sz) (hm : m ≤ cap) (hsz : ∀ i, i < m → (el i).cells.length = sz)
    (hv : ∀ (i j : Nat) (c : AV) (v : Value), i < m → (el i).cells[j]? = some c → vs[i * sz + j]? = some v → VR G w [] c v)
    (fz : Nat × Nat := (0, 0)) (hz : ∀ o, o < vs.length → (decide (fz.1 ≤ o) && decide (o < fz.2)) = false := by intros; simp) :
    InvV (allocG G w.heap.size vs.length (rowT (m * sz))) (w.alloc (.cells vs.toArray e fz)) ρ n fr H tmps (.sl sz m el true) (.slice (some (mkA w.heap.size 0)) m cap) := by
  have hw := hi.wi
  have hle : m * sz ≤ vs.length := by rw [hl]; exact Nat.mul_le_mul_right _ hm
  refine ⟨⟨hi.size, by have := alloc_fr hw hi.fr (.cells vs.toArray e fz) vs.length (rowT (m * sz)) []; rwa [List.append_nil] at this, alloc_br hw hi.br .., ?_⟩, ?_, ?_⟩
  · have := alloc_wi (G := G) hw vs.toArray e (rowT (m * sz)) (by simpa using h1) fz (by simpa using hz)
    simpa using this
  · refine .sl _ _ _ _ _ (some (w.heap.size, 0)) cap (fun q => vs.getD q undef) hm (by simp) hsz (fun b o eb q hq => ?_) (fun i j c hi hc => ?_)
    · simp only [Option.some.injEq, Prod.mk.injEq] at eb
      obtain ⟨rfl, rfl⟩ := eb
      rw [Nat.zero_add]
      have hq2 : q < vs.length := by omega
      refine ⟨by simp [allocG, hq2, rowT, hq], ?_⟩
      rw [cell_alloc_new]
      simp [List.getD_eq_getElem?_getD, hq2]
    · have hj : j < sz := by rw [← hsz i hi]; exact (List.getElem?_eq_some_iff.1 hc).1
      have hq : i * sz + j < vs.length := by
        have : (i + 1) * sz ≤ m * sz := Nat.mul_le_mul_right _ hi
        rw [Nat.succ_mul] at this; omega
      have := (hv i j c vs[i * sz + j] hi hc (List.getElem?_eq_getElem hq)).keep (alloc_keeps hw (.cells vs.toArray e fz) vs.length (rowT (m * sz)))
      simpa [List.getD_eq_getElem?_getD, List.getElem?_eq_getElem hq] using this
  · refine SpV_of_Sp ?_ (by simp)
    show Sp _ (.res 0) _ _
    simp only [Sp]
    intro _ q h2 h3
    simp only [mkA, Nat.zero_add, allocG, if_true, hl, if_pos h3, rowT]
    rw [if_neg (by omega)]

/-! ### 'append' -/
def apEl (n : Nat) (el el2 : Nat → AV) : Nat → AV := fun i => bif Nat.blt i n then el i else el2 (i - n)
theorem apEl_lt {n i : Nat} {el el2 : Nat → AV} (h : i < n) : apEl n el el2 i = el i := by
  unfold apEl
  cases hb : Nat.blt i n with
  | true => rfl
  | false => rw [Nat.blt, Nat.ble_eq_true_of_le h] at hb; cases hb
theorem apEl_ge {n i : Nat} {el el2 : Nat → AV} (h : n ≤ i) : apEl n el el2 i = el2 (i - n) := by
  unfold apEl
  cases hb : Nat.blt i n with
  | false => rfl
  | true => have := Nat.le_of_ble_eq_true hb; omega
/-- what is appended -/
structure Src (P : Program) (G : Gh) (w : World) (sz m : Nat) (el : Nat → AV) (x : Value) (news : List Value) : Prop where
  len : (Builtin.lenOf x).run P w = .ok m w
  first : (Builtin.firstCells sz m x).run P w = .ok news.toArray w
  first' : (Builtin.firstCells sz m x).run P w.drew = .ok news.toArray w.drew
  size : news.length = m * sz
  one : ∀ v, v ∈ news → v.oneCell' = true
  elsz : ∀ i, i < m → (el i).cells.length = sz
  val : ∀ (i j : Nat) (c : AV) (v : Value), i < m → (el i).cells[j]? = some c → news[i * sz + j]? = some v → VR G w [] c v
def isSS (P : Program) (t : TypeId) : Bool := match P.underlying t with
  | some (.slice _) => true
  | some .string => true
  | _ => false
theorem isSS_und {t : TypeId} (h : isSS P t = true) : (∃ d, P.underlying t = some (.slice d)) ∨ P.underlying t = some .string := by
  unfold isSS at h
  split at h
  · rename_i d hd; exact .inl ⟨d, hd⟩
  · rename_i hd; exact .inr hd
  · simp at h
theorem run_append_room {t t2 ty e : TypeId} {i : TypeInfo} (ht : P.underlying t = some (.slice e)) (hi : P.info? e = some i) (h2 : isSS P t2 = true) {b off len cap m : Nat} {x : Value} {news : List Value} {el : Nat → AV}
    (hs : Src P G w i.size m el x news) (hw : WI G w) (hcap : len + m ≤ cap) (hwr : Wr G w b (off + len * i.size) news) :
    (Builtin.append_ #[t, t2] ty #[.slice (some (mkA b off)) len cap, x]).run P w = .ok (.slice (some (mkA b off)) (len + m) cap) (w.setCells b (off + len * i.size) news) := by
  have hst := hwr.runs (P := P) hw
  rcases isSS_und h2 with ⟨d, hd⟩ | hd <;>
  simp only [Builtin.append_, List.getElem?_toArray, List.getElem?_cons_zero, List.getElem?_cons_succ, Sem.run_bind, run_und ht, Result.andThen_ok, sizeOf, run_ti hi, Sem.run_pure, run_und hd, Bool.false_eq_true, if_false, hs.len, if_pos hcap, Bool.not_false, if_true, hs.first, mkA_add, hst]
theorem run_append_grow {t t2 ty e : TypeId} {i : TypeInfo} {z : Value} (ht : P.underlying t = some (.slice e)) (hi : P.info? e = some i) (hz : i.zero = some z) (h2 : isSS P t2 = true) {base : Option Addr} {len cap m : Nat} {x : Value} {olds news : List Value} {el : Nat → AV}
    (hs : Src P G w i.size m el x news) (hcap : cap < len + m) (hbytes : (len + m) * i.bytes ≤ 140737488355328) (hlen : len + m ≤ 140737488355328) (hold : (Builtin.firstCells i.size len (.slice base len cap)).run P w.drew = .ok olds.toArray w.drew) :
    (Builtin.append_ #[t, t2] ty #[.slice base len cap, x]).run P w = .ok (.slice (some (mkA w.heap.size 0)) (len + m) (grownCap w (len + m) cap e)) (w.drew.alloc (.cells (olds ++ (news ++ (Builtin.zeroCells z.cells (grownCap w (len + m) cap e - (len + m))).toList)).toArray e)) := by
  have hfit := growslice_fits (need := len + m) (old := cap) (bytes := i.bytes) hcap hbytes
  have hold' := hold
  have hf' := hs.first'
  simp only [World.drew] at hold' hf'
  have h63 : ¬ (((len + m : Nat) : Int) > IntKind.i64.max ∧ (False ∨ i.bytes = 0)) := by simp [IntKind.max, IntKind.signed, IntKind.bits]; omega
  have h48 : ¬ (Builtin.nextslicecap (len + m) cap * i.bytes > 2 ^ 48) := by omega
  rcases isSS_und h2 with ⟨d, hd⟩ | hd <;>
  · simp only [Builtin.append_, List.getElem?_toArray, List.getElem?_cons_zero, List.getElem?_cons_succ, Sem.run_bind, run_und ht, Result.andThen_ok, sizeOf, run_ti hi, Sem.run_pure, run_und hd, Bool.false_eq_true, if_false, hs.len,
      if_neg (show ¬ (len + m ≤ cap) by omega), if_neg h63, if_neg h48, run_choose, Question.forced, run_askRoom, hold', Bool.not_false, if_true, hf', zeroValue, hz, newRow, run_newObj]
    have : ∀ Z : Array Value, (olds ++ (news ++ Z.toList)).toArray = olds.toArray ++ news.toArray ++ Z := fun Z => by apply Array.ext'; simp
    rw [this]
    rfl
theorem run_append_nil0 {t t2 ty e : TypeId} {i : TypeInfo} (ht : P.underlying t = some (.slice e)) (hi : P.info? e = some i) (h2 : isSS P t2 = true) {x : Value} {news : List Value} {el : Nat → AV}
    (hs : Src P G w i.size 0 el x news) : (Builtin.append_ #[t, t2] ty #[.slice none 0 0, x]).run P w = .ok (.slice none 0 0) w := by
  rcases isSS_und h2 with ⟨d, hd⟩ | hd <;>
  simp only [Builtin.append_, List.getElem?_toArray, List.getElem?_cons_zero, List.getElem?_cons_succ, Sem.run_bind, run_und ht, Result.andThen_ok, sizeOf, run_ti hi, Sem.run_pure, run_und hd, Bool.false_eq_true, if_false, hs.len, Nat.add_zero, Nat.le_refl, if_true, Bool.not_false, hs.first]
theorem mem_zeroCells {z : Array Value} {m : Nat} {v : Value} (h : v ∈ (Builtin.zeroCells z m).toList) : v ∈ z.toList := by
  simp only [Builtin.zeroCells, Array.toList_map, List.mem_map] at h
  obtain ⟨i, hi, rfl⟩ := h
  have hz : 0 < z.size := by
    rcases Nat.eq_zero_or_pos z.size with h0 | h0
    · rw [h0] at hi; simp at hi
    · exact h0
  have := Nat.mod_lt i hz
  simp [this]
/-- the room's new owners when so much of it has been written -/
def roomG (G : Gh) (t b lo hi : Nat) : Gh := fun b' o' => if G b' o' = .slot t 0 then (if b' = b ∧ lo ≤ o' ∧ o' < hi then .frz else .res 0) else G b' o'
theorem roomG_sub (G : Gh) (t b lo hi : Nat) : Sub G (roomG G t b lo hi) := by
  constructor
  · intro b o h; simp [roomG, h]
  · intro b o h; simp [roomG, h]
  · intro b o h; simp [roomG, h]
  · intro b o h
    unfold roomG at h
    split at h
    · rename_i e; rw [e]; rfl
    · exact h
  · intro b o h
    unfold roomG at h
    split at h
    · rename_i e; rw [e]; exact .inr rfl
    · exact .inl h
theorem FR.setUn {t : Nat} (h : FR G w ρ fr tmps) : FR G w ρ (fr.set t (un (fr t))) tmps := by
  intro i
  unfold Fr.set
  cases hb : Nat.beq i t with
  | true => have := Nat.eq_of_beq_eq_true hb; subst this; exact ⟨(h i).1.un, SpV_un ..⟩
  | false => exact h i
theorem apEl_vals {sz len m : Nat} {el el2 : Nat → AV} {G2 : Gh} {w2 : World} {all : List Value} (h1 : ∀ i, i < len → (el i).cells.length = sz)
    (hA : ∀ (i j : Nat) (c : AV) (v : Value), i < len → (el i).cells[j]? = some c → all[i * sz + j]? = some v → VR G2 w2 [] c v)
    (hB : ∀ (i j : Nat) (c : AV) (v : Value), i < m → (el2 i).cells[j]? = some c → all[(len + i) * sz + j]? = some v → VR G2 w2 [] c v) :
    ∀ (i j : Nat) (c : AV) (v : Value), i < len + m → (apEl len el el2 i).cells[j]? = some c → all[i * sz + j]? = some v → VR G2 w2 [] c v := by
  intro i j c v hi hc hv
  rcases Nat.lt_or_ge i len with h | h
  · rw [apEl_lt h] at hc; exact hA i j c v h hc hv
  · rw [apEl_ge h] at hc
    exact hB (i - len) j c v (by omega) hc (by rwa [show len + (i - len) = i by omega])
theorem append_core {t tt t2 ty e sz len m : Nat} {el el2 : Nat → AV} {inf : TypeInfo} {zs : List AV} {vd x : Value} {news : List Value} (hi : Inv G w ρ n fr H tmps) (ht : P.underlying tt = some (.slice e)) (hinf : P.info? e = some inf) (hsz : inf.size = sz) (hz : zeroE P e = some zs) (h2 : isSS P t2 = true)
    (hD : VR G w ρ (.sl sz len el true) vd) (hSp : Sp G (.slot t 0) (.sl sz len el true) vd) (hs : Src P G w sz m el2 x news) (hbytes : (len + m) * inf.bytes ≤ 140737488355328) (hlen : len + m ≤ 140737488355328) :
    ∃ v' w' G', (Builtin.append_ #[tt, t2] ty #[vd, x]).run P w = .ok v' w' ∧ Trans G w G' w' ∧ InvV G' w' ρ n (fr.set t (un (fr t))) H tmps (.sl sz (len + m) (apEl len el el2) true) v' := by
  subst hsz
  obtain ⟨z, zv, inf', q1, q2, q3, q4, q5, _⟩ := zero_sound hz
  rw [hinf] at q1; simp at q1; subst q1
  obtain ⟨base, cap, vs, rfl, e1, e2, e3, e4, e5⟩ := hD.sl_inv
  have hap : ∀ i, i < len + m → (apEl len el el2 i).cells.length = inf.size := by
    intro i hi
    rcases Nat.lt_or_ge i len with h | h
    · rw [apEl_lt h]; exact e3 i h
    · rw [apEl_ge h]; exact hs.elsz _ (by omega)
  have grow : cap < len + m → ∀ olds : List Value, olds.length = len * inf.size → (∀ v, v ∈ olds → v.oneCell' = true) → (∀ (i j : Nat) (c : AV) (v : Value), i < len → (el i).cells[j]? = some c → olds[i * inf.size + j]? = some v → VR G w [] c v) →
      (Builtin.firstCells inf.size len (.slice (base.map fun p => mkA p.1 p.2) len cap)).run P w.drew = .ok olds.toArray w.drew →
      ∃ v' w' G', (Builtin.append_ #[tt, t2] ty #[.slice (base.map fun p => mkA p.1 p.2) len cap, x]).run P w = .ok v' w' ∧ Trans G w G' w' ∧ InvV G' w' ρ n (fr.set t (un (fr t))) H tmps (.sl inf.size (len + m) (apEl len el el2) true) v' := by
    intro hcap olds o1 o2 o3 o4
    have hr := run_append_grow (ty := ty) ht hinf q2 h2 hs hcap hbytes hlen o4
    have hge := grownCap_ge w (len + m) cap e
    have hid : Inv G w.drew ρ n (fr.set t (un (fr t))) H tmps := drew_inv ⟨hi.size, hi.fr.setUn, hi.br, hi.wi⟩
    have hall : (olds ++ (news ++ (Builtin.zeroCells z.cells (grownCap w (len + m) cap e - (len + m))).toList)).length = grownCap w (len + m) cap e * inf.size := by
      simp only [List.length_append, o1, hs.size, Array.length_toList, size_zeroCells, q3, List.size_toArray, ← q4, ← Nat.add_mul]
      congr 1; omega
    refine ⟨_, _, _, hr, (drew_trans G w).trans (alloc_trans hid.wi _ _ _), newSl hid ?_ hall hge hap ?_⟩
    · intro v hv
      simp only [List.mem_append] at hv
      rcases hv with hv | hv | hv
      · exact o2 v hv
      · exact hs.one v hv
      · have := mem_zeroCells hv
        rw [q3] at this
        exact q5 v (by simpa using this)
    · refine apEl_vals e3 (fun i j c v h1 h2 h3 => ?_) (fun i j c v h1 h2 h3 => ?_)
      · have hj : j < inf.size := by rw [← e3 i h1]; exact (List.getElem?_eq_some_iff.1 h2).1
        have hq : i * inf.size + j < olds.length := by
          rw [o1]
          have : (i + 1) * inf.size ≤ len * inf.size := Nat.mul_le_mul_right _ h1
          rw [Nat.succ_mul] at this; omega
        rw [List.getElem?_append_left hq] at h3
        exact (o3 i j c v h1 h2 h3).keep (drew_keeps _ _)
      · have hj : j < inf.size := by rw [← hs.elsz i h1]; exact (List.getElem?_eq_some_iff.1 h2).1
        have hq : i * inf.size + j < news.length := by
          rw [hs.size]
          have : (i + 1) * inf.size ≤ m * inf.size := Nat.mul_le_mul_right _ h1
          rw [Nat.succ_mul] at this; omega
        rw [Nat.add_mul, List.getElem?_append_right (by omega), o1, show len * inf.size + i * inf.size + j - len * inf.size = i * inf.size + j by omega, List.getElem?_append_left hq] at h3
        exact (hs.val i j c v h1 h2 h3).keep (drew_keeps _ _)
  cases base with
  | none =>
    have hc0 := e2 rfl
    subst hc0
    have hl0 : len = 0 := by omega
    subst hl0
    by_cases hm : m = 0
    · subst hm
      refine ⟨.slice none 0 0, w, G, run_append_nil0 (ty := ty) ht hinf h2 hs, Trans.refl _ _, ⟨hi.size, hi.fr.setUn, hi.br, hi.wi⟩, ?_, SpV_of_Sp (Sp_none ..) (by simp)⟩
      exact .sl _ _ _ _ _ none 0 (fun _ => undef) (Nat.le_refl _) (fun _ => rfl) (fun i h => absurd h (Nat.not_lt_zero _)) (fun b o h => by simp at h) (fun i j c h => absurd h (Nat.not_lt_zero _))
    · exact grow (by omega) [] (by simp) (by simp) (by simp) (by rfl)
  | some p =>
    obtain ⟨b, off⟩ := p
    have hlen2 : len * inf.size ≤ cap * inf.size := Nat.mul_le_mul_right _ e1
    by_cases hcap : len + m ≤ cap
    · have hcz : (len + m) * inf.size ≤ cap * inf.size := Nat.mul_le_mul_right _ hcap
      have hroom : ∀ q, len * inf.size ≤ q → q < cap * inf.size → G b (off + q) = .slot t 0 := fun q h1 h2 => hSp rfl q h1 h2
      have hwr : Wr G w b (off + len * inf.size) news := ⟨fun q hq => by
        rw [hs.size] at hq
        rw [Nat.add_assoc, hroom _ (by omega) (by rw [Nat.add_mul] at hcz; omega)]; rfl, hs.one⟩
      have hsub := roomG_sub G t b (off + len * inf.size) (off + (len + m) * inf.size)
      have hk : Keeps G w (roomG G t b (off + len * inf.size) (off + (len + m) * inf.size)) (w.setCells b (off + len * inf.size) news) := fun b' o' h => ⟨hsub.frz _ _ h, (hwr.keeps b' o' h).2⟩
      refine ⟨_, _, roomG G t b (off + len * inf.size) (off + (len + m) * inf.size), run_append_room (ty := ty) ht hinf h2 hs hi.wi hcap hwr, hwr.trans.trans (hsub.trans fun b o e => ((hwr.wi hi.wi).own b o e).2), ⟨hi.size, ?_, ?_, hsub.wi (hwr.wi hi.wi)⟩, ?_, ?_⟩
      · intro i
        unfold Fr.set
        cases hb : Nat.beq i t with
        | true => have := Nat.eq_of_beq_eq_true hb; subst this; exact ⟨((hi.fr i).1.keep hk).un, SpV_un ..⟩
        | false =>
          have hne : i ≠ t := fun e => by rw [e, Nat.beq_refl] at hb; cases hb
          exact ⟨(hi.fr i).1.keep hk, (hi.fr i).2.map fun c b o e => by unfold roomG; rw [e]; simp [hne]⟩
      · refine ⟨hi.br.len, fun id b' blk j c h1 h2 h3 => ?_⟩
        obtain ⟨k1, v, k2, k3, k4⟩ := hi.br.cell id b' blk j c h1 h2 h3
        refine ⟨by unfold roomG; rw [k1]; simp, v, ?_, k3.keep hk, k4.map fun b o e => by unfold roomG; rw [e]; simp⟩
        by_cases hq : b' ≠ b ∨ j < off + len * inf.size ∨ off + len * inf.size + news.length ≤ j
        · rw [Wr.out hq]; exact k2
        · have hb : b' = b := by omega
          subst hb
          have := hroom (j - off) (by omega) (by rw [hs.size] at hq; rw [Nat.add_mul] at hcz; omega)
          rw [show off + (j - off) = j by omega, k1] at this
          cases this
      · refine .sl _ _ _ _ _ (some (b, off)) cap (fun q => if q < len * inf.size then vs q else news.getD (q - len * inf.size) undef) hcap (by simp) hap (fun b' o' hb q hq => ?_) (fun i j c hi' hc => ?_)
        · simp only [Option.some.injEq, Prod.mk.injEq] at hb
          obtain ⟨rfl, rfl⟩ := hb
          by_cases h : q < len * inf.size
          · rw [if_pos h]
            have := e4 b off rfl q h
            exact ⟨hsub.frz _ _ this.1, (hwr.keeps _ _ this.1).2.trans this.2⟩
          · rw [if_neg h]
            have h' := hroom q (by omega) (by omega)
            refine ⟨by unfold roomG; rw [if_pos h', if_pos (by omega)], ?_⟩
            have hq2 : q - len * inf.size < news.length := by rw [hs.size]; rw [Nat.add_mul] at hq; omega
            have := hwr.at_ hi.wi hq2
            rw [show off + len * inf.size + (q - len * inf.size) = off + q by omega] at this
            simpa [List.getD_eq_getElem?_getD, List.getElem?_eq_getElem hq2] using this
        · rcases Nat.lt_or_ge i len with h | h
          · rw [apEl_lt h] at hc
            have hj : j < inf.size := by rw [← e3 i h]; exact (List.getElem?_eq_some_iff.1 hc).1
            have hq : i * inf.size + j < len * inf.size := by
              have : (i + 1) * inf.size ≤ len * inf.size := Nat.mul_le_mul_right _ h
              rw [Nat.succ_mul] at this; omega
            rw [if_pos hq]
            exact (e5 i j c h hc).keep hk
          · rw [apEl_ge h] at hc
            have hj : j < inf.size := by rw [← hs.elsz _ (show i - len < m by omega)]; exact (List.getElem?_eq_some_iff.1 hc).1
            have hii : i * inf.size = len * inf.size + (i - len) * inf.size := by rw [← Nat.add_mul]; congr 1; omega
            rw [if_neg (by omega), show i * inf.size + j - len * inf.size = (i - len) * inf.size + j by omega]
            have hq2 : (i - len) * inf.size + j < news.length := by
              rw [hs.size]
              have : (i - len + 1) * inf.size ≤ m * inf.size := Nat.mul_le_mul_right _ (by omega)
              rw [Nat.succ_mul] at this; omega
            have := (hs.val (i - len) j c news[(i - len) * inf.size + j] (by omega) hc (List.getElem?_eq_getElem hq2)).keep hk
            simpa [List.getD_eq_getElem?_getD, List.getElem?_eq_getElem hq2] using this
      · refine SpV_of_Sp ?_ (by simp)
        intro _ q h1 h2
        have h' := hroom q (by rw [Nat.add_mul] at h1; omega) h2
        show roomG _ _ _ _ _ b (off + q) = _
        unfold roomG
        rw [if_pos h', if_neg (by omega)]
    · refine grow (by omega) ((List.range (len * inf.size)).map vs) (by simp) (fun v hv => ?_) (fun i j c v h1 h2 h3 => ?_) ?_
      · obtain ⟨q, hq, rfl⟩ := List.mem_map.1 hv
        have := e4 b off rfl q (by simpa using hq)
        exact hi.wi.one _ _ _ (.inl this.1) this.2
      · have hj : j < inf.size := by rw [← e3 i h1]; exact (List.getElem?_eq_some_iff.1 h2).1
        have hq : i * inf.size + j < len * inf.size := by
          have : (i + 1) * inf.size ≤ len * inf.size := Nat.mul_le_mul_right _ h1
          rw [Nat.succ_mul] at this; omega
        simp [hq] at h3
        subst h3
        exact e5 i j c h1 h2
      · have := run_loadCells (P := P) w.drew (mkA b off) (len * inf.size) vs (fun q hq => by rw [mkA_add]; exact (e4 b off rfl q hq).2)
        simpa [Builtin.firstCells] using this
end Go.Am
set_option linter.unusedSectionVars false
set_option linter.unusedVariables false
set_option linter.unusedSimpArgs false
namespace Go.Am
open Go
variable [Tab]
variable {P : Program} {G G' : Gh} {w : World} {ρ : List Nat} {n : Nat} {fr : Fr} {H : Heap} {tmps : Array Value}

theorem src_sl {sz m : Nat} {el : Nat → AV} {o : Bool} {x : Value} (hw : WI G w) (h : VR G w ρ (.sl sz m el o) x) : ∃ news, Src P G w sz m el x news := by
  obtain ⟨base, cap, vs, rfl, e1, e2, e3, e4, e5⟩ := h.sl_inv
  cases base with
  | none =>
    have : m = 0 := by have := e2 rfl; omega
    subst this
    exact ⟨[], rfl, rfl, rfl, by simp, by simp, fun i hi => absurd hi (Nat.not_lt_zero _), fun i j c v hi => absurd hi (Nat.not_lt_zero _)⟩
  | some p =>
    obtain ⟨b, off⟩ := p
    refine ⟨(List.range (m * sz)).map vs, rfl, ?_, ?_, by simp, fun v hv => ?_, e3, fun i j c v h1 h2 h3 => ?_⟩
    · have := run_loadCells (P := P) w (mkA b off) (m * sz) vs (fun q hq => by rw [mkA_add]; exact (e4 b off rfl q hq).2)
      simpa [Builtin.firstCells] using this
    · have := run_loadCells (P := P) w.drew (mkA b off) (m * sz) vs (fun q hq => by rw [mkA_add]; exact (e4 b off rfl q hq).2)
      simpa [Builtin.firstCells] using this
    · obtain ⟨q, hq, rfl⟩ := List.mem_map.1 hv
      have := e4 b off rfl q (by simpa using hq)
      exact hw.one _ _ _ (.inl this.1) this.2
    · have hj : j < sz := by rw [← e3 i h1]; exact (List.getElem?_eq_some_iff.1 h2).1
      have hq : i * sz + j < m * sz := by
        have : (i + 1) * sz ≤ m * sz := Nat.mul_le_mul_right _ h1
        rw [Nat.succ_mul] at this; omega
      simp [hq] at h3
      subst h3
      exact e5 i j c h1 h2
theorem src_str {s : List UInt8} {x : Value} (h : VR G w ρ (.str s) x) : ∃ news, Src P G w 1 s.length (byteEl s) x news := by
  obtain rfl := h.str_inv
  have hs : (ByteArray.mk s.toArray).size = s.length := by show s.toArray.size = _; simp
  have hx : ((ByteArray.mk s.toArray).extract 0 s.length).data = s.toArray := by
    simp [ByteArray.data_extract]
  refine ⟨s.map fun b => .int .u8 b.toNat, by simp [Builtin.lenOf, hs], ?_, ?_, by simp, by simp [Value.oneCell'], fun i _ => rfl, fun i j c v h1 h2 h3 => ?_⟩
  · simp only [Builtin.firstCells, hx, Sem.run_pure]; simp
  · simp only [Builtin.firstCells, hx, Sem.run_pure]; simp
  · have hj : j = 0 := by have := (List.getElem?_eq_some_iff.1 h2).1; simpa [byteEl, AV.cells] using this
    subst hj
    simp [byteEl, AV.cells] at h2
    subst h2
    simp [h1] at h3
    subst h3
    simp only [List.getD_eq_getElem?_getD, List.getElem?_eq_getElem h1, Option.getD_some]
    exact .int ..
theorem src_hs {id off m cp b : Nat} {blk : List AV} (hw : WI G w) (hb : BR G w ρ H) (hr : ρ[id]? = some b) (hk : H[id]? = some blk) (hl : off + m ≤ blk.length) (hp : ∀ q, off ≤ q → q < off + m → pf (blk.getD q .bad) = true) :
    ∃ news, Src P G w 1 m (fun i => blk.getD (off + i) .bad) (.slice (some (mkA b off)) m cp) news := by
  have hc : ∀ q : Nat, ∃ v, q < m → G b (off + q) = .cell id ∧ w.cell? (mkA b (off + q)) = some v ∧ VR G w ρ (blk.getD (off + q) .bad) v := by
    intro q
    by_cases hq : q < m
    · have h1 : off + q < blk.length := by omega
      obtain ⟨e1, v, e2, e3, _⟩ := hb.cell id b blk (off + q) blk[off + q] hr hk (List.getElem?_eq_getElem h1)
      exact ⟨v, fun _ => ⟨e1, e2, by simpa [List.getD_eq_getElem?_getD, List.getElem?_eq_getElem h1] using e3⟩⟩
    · exact ⟨undef, fun h => absurd h hq⟩
  refine ⟨(List.range m).map fun q => Classical.choose (hc q), rfl, ?_, ?_, by simp, fun v hv => ?_, fun i hi => ?_, fun i j c v h1 h2 h3 => ?_⟩
  · have := run_loadCells (P := P) w (mkA b off) m (fun q => Classical.choose (hc q)) (fun q hq => by rw [mkA_add]; exact (Classical.choose_spec (hc q) hq).2.1)
    simpa [Builtin.firstCells] using this
  · have := run_loadCells (P := P) w.drew (mkA b off) m (fun q => Classical.choose (hc q)) (fun q hq => by rw [mkA_add]; exact (Classical.choose_spec (hc q) hq).2.1)
    simpa [Builtin.firstCells] using this
  · obtain ⟨q, hq, rfl⟩ := List.mem_map.1 hv
    have := Classical.choose_spec (hc q) (by simpa using hq)
    exact hw.one _ _ _ (.inr (by rw [this.1]; rfl)) this.2.1
  · have := hp (off + i) (by omega) (by omega)
    show (AV.cells _).length = 1
    generalize blk.getD (off + i) .bad = c at this ⊢
    cases c <;> first | rfl | simp [pf] at this
  · have hpc := hp (off + i) (by omega) (by omega)
    have hj : c = blk.getD (off + i) .bad ∧ j = 0 := by
      revert h2
      show (AV.cells _)[j]? = some c → _
      generalize blk.getD (off + i) .bad = d at hpc ⊢
      intro h2
      have : d.cells = [d] := by cases d <;> first | rfl | simp [pf] at hpc
      rw [this] at h2
      have hj := (List.getElem?_eq_some_iff.1 h2).1
      have : j = 0 := by simpa using hj
      subst this
      simp at h2
      exact ⟨h2.symm, rfl⟩
    obtain ⟨e1, e2⟩ := hj
    have hm : i * 1 + j < m := by omega
    have e3 : i * 1 + j = i := by omega
    rw [List.getElem?_map, List.getElem?_range hm, e3] at h3
    simp only [Option.map_some, Option.some.injEq] at h3
    rw [e1, ← h3]
    exact (Classical.choose_spec (hc i) h1).2.2.pf hpc []
/-- a slice type's element type, its cells, its bytes -/
def slT (P : Program) (t : TypeId) : Option (TypeId × Nat × Nat) :=
  match P.underlying t with
  | some (.slice e) => match P.info? e, zeroE P e with
    | some i, some _ => litN i.size fun z => some (e, z, i.bytes)
    | _, _ => none
  | _ => none
theorem slT_some {t e sz by_ : Nat} (h : slT P t = some (e, sz, by_)) : P.underlying t = some (.slice e) ∧ ∃ i zs, P.info? e = some i ∧ zeroE P e = some zs ∧ i.size = sz ∧ i.bytes = by_ := by
  unfold slT at h
  split at h
  · rename_i e' hu
    split at h
    · rename_i i zs hi hz
      rw [litN_eq] at h
      simp only [Option.some.injEq, Prod.mk.injEq] at h
      obtain ⟨rfl, rfl, rfl⟩ := h
      exact ⟨hu, i, zs, hi, hz, rfl, rfl⟩
    · simp at h
  · simp at h
theorem bs_append {s s2 : List UInt8} {v : Value} (h : VR G w ρ (.sl 1 (s.length + s2.length) (apEl s.length (byteEl s) (byteEl s2)) true) v) : VR G w ρ (.bs (s ++ s2) true) v := by
  refine .bs _ _ _ _ ?_
  have hl : (s ++ s2).length = s.length + s2.length := by simp
  rw [hl]
  have := h.pf rfl []
  refine this.sl_congr fun i hi => ?_
  rcases Nat.lt_or_ge i s.length with h | h
  · rw [apEl_lt h]; simp [byteEl, List.getD_eq_getElem?_getD, List.getElem?_append_left h]
  · rw [apEl_ge h]; simp [byteEl, List.getD_eq_getElem?_getD, List.getElem?_append_right h]
theorem Sp_bs_sl {t : Own} {s : List UInt8} {m : Nat} {el : Nat → AV} {v : Value} : Sp G t (.bs s true) v ↔ Sp G t (.sl 1 m el true) v := by
  cases v with
  | slice a l c => cases a <;> simp [Sp]
  | _ => simp [Sp]
theorem append_exec {o : Oper} {tt t2 : TypeId} {t : Nat} {x : Operand} {a : Act} (ho : o.op = .call { callee := .builtin .append, args := #[.tmp t, x], argTypes := #[tt, t2] }) {v' : Value} {w' : World}
    (h : (Builtin.append_ #[tt, t2] o.type #[a.tmps.getD t undef, a.eval x]).run P w = .ok v' w') : (execOp a.eval o).run P w = .ok (.value v') w' := by
  simp only [execOp, ho, resolve, invoke, builtin]
  have : (#[Operand.tmp t, x].map a.eval) = #[a.tmps.getD t undef, a.eval x] := by simp [Act.eval]
  rw [this]
  simp only [Sem.run_bind, Sem.run_pure, Result.andThen_ok, h]
theorem OpSem.append {o : Oper} {tt t2 e sz by_ t len m : Nat} {x : Operand} {el el2 : Nat → AV} {o2 : Bool} (ho : o.op = .call { callee := .builtin .append, args := #[.tmp t, x], argTypes := #[tt, t2] })
    (ht : slT P tt = some (e, sz, by_)) (h2 : isSS P t2 = true) (hD : fr t = .sl sz len el true) (hX : opd P t2 fr x = .sl sz m el2 o2) (hb : (len + m) * by_ ≤ 140737488355328) (hl : len + m ≤ 140737488355328) :
    OpSem P o fr H (.sl sz (len + m) (apEl len el el2) true) (fr.set t (un (fr t))) H := by
  intro b a w G ρ n ops i rest k cs hoi hw hi
  obtain ⟨hu, inf, zs, h3, h4, h5, rfl⟩ := slT_some ht
  have hd := hi.fr t
  have hx := VR.opd (P := P) (t := t2) hi.fr x
  rw [hX] at hx
  obtain ⟨news, hs⟩ := src_sl (P := P) hi.wi hx
  have hd1 := hd.1
  have hd2 := hd.2
  rw [hD] at hd1 hd2
  obtain ⟨v', w', G', h6, h7, h8⟩ := append_core (ty := o.type) hi hu h3 h5 h4 h2 hd1 hd2 hs hb hl
  exact ⟨v', w', G', [], .one (step_value hoi hw (append_exec ho h6)), h7, by rw [List.append_nil]; exact h8⟩
theorem OpSem.appendB {o : Oper} {tt t2 e by_ t : Nat} {x : Operand} {s s2 : List UInt8} (ho : o.op = .call { callee := .builtin .append, args := #[.tmp t, x], argTypes := #[tt, t2] })
    (ht : slT P tt = some (e, 1, by_)) (h2 : isSS P t2 = true) (hD : fr t = .bs s true) (hX : (∃ o2, opd P t2 fr x = .bs s2 o2) ∨ opd P t2 fr x = .str s2) (hb : (s.length + s2.length) * by_ ≤ 140737488355328) (hl : s.length + s2.length ≤ 140737488355328) :
    OpSem P o fr H (.bs (s ++ s2) true) (fr.set t (un (fr t))) H := by
  intro b a w G ρ n ops i rest k cs hoi hw hi
  obtain ⟨hu, inf, zs, h3, h4, h5, rfl⟩ := slT_some ht
  have hd := hi.fr t
  have hx := VR.opd (P := P) (t := t2) hi.fr x
  obtain ⟨news, hs⟩ : ∃ news, Src P G w 1 s2.length (byteEl s2) (a.eval x) news := by
    rcases hX with ⟨o2, hX⟩ | hX
    · rw [hX] at hx; exact src_sl (P := P) hi.wi hx.bs_inv
    · rw [hX] at hx; exact src_str hx
  have hd1 := hd.1
  have hd2 := hd.2
  rw [hD] at hd1 hd2
  have hd3 : Sp G (.slot t 0) (.sl 1 s.length (byteEl s) true) (a.tmps.getD t undef) := Sp_bs_sl.1 hd2
  obtain ⟨v', w', G', h6, h7, h8⟩ := append_core (ty := o.type) hi hu h3 h5 h4 h2 (hd1.bs_inv.of_nil (ρ := ρ)) hd3 hs hb hl
  refine ⟨v', w', G', [], .one (step_value hoi hw (append_exec ho h6)), h7, ?_⟩
  rw [List.append_nil]
  exact ⟨h8.inv, bs_append h8.vr, SpV_of_Sp (Sp_bs_sl.2 h8.sp) (by simp)⟩
end Go.Am
