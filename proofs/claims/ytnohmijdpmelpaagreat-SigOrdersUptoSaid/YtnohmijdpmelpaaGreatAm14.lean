/- The abstract machine: stores. -/
import Derived.Test.YtnohmijdpmelpaaGreatAm13
set_option linter.unusedSectionVars false
set_option linter.unusedVariables false
set_option linter.unusedSimpArgs false
namespace Go.Am
open Go
variable [Tab]
variable {P : Program} {G : Gh} {w : World} {ρ : List Nat} {n : Nat} {fr : Fr} {H : Heap} {tmps : Array Value}

theorem setCells_fix (b : Nat) : ∀ (vs : List Value) (o : Nat) (w : World), (w.setCells b o vs).os = w.os ∧ (w.setCells b o vs).tape = w.tape ∧ (w.setCells b o vs).output = w.output ∧ (w.setCells b o vs).heap.size = w.heap.size ∧ ∀ b', b' ≠ b → (w.setCells b o vs).heap[b']? = w.heap[b']?
  | [], _, _ => ⟨rfl, rfl, rfl, rfl, fun _ _ => rfl⟩
  | v :: r, o, w => by
    obtain ⟨h1, h2, h3, h4, h5⟩ := setCells_fix b r (o + 1) (w.setCell ⟨b, o, none⟩ v)
    refine ⟨h1, h2, h3, by rw [World.setCells, h4]; simp [World.setCell], fun b' hb => ?_⟩
    rw [World.setCells, h5 b' hb]
    have hne : ¬ b = b' := fun h => hb h.symm
    simp [World.setCell, Array.getElem?_modify, hne]
/-- cells that are owned are written -/
structure Wr (G : Gh) (w : World) (b off : Nat) (vs : List Value) : Prop where
  mine : ∀ q, q < vs.length → (G b (off + q)).mine = true
  one : ∀ v, v ∈ vs → v.oneCell' = true
variable {b off : Nat} {vs : List Value}
theorem Wr.runs (h : Wr G w b off vs) (hw : WI G w) : (storeCells (mkA b off) vs).run P w = .ok () (w.setCells b off vs) :=
  run_storeCells_cells b off vs 0 w (fun j hj => (hw.own _ _ (h.mine j hj)).1) (fun j hj => (hw.own _ _ (h.mine j hj)).2) h.one
theorem Wr.far (h : Wr G w b off vs) {b' o' : Nat} (hn : (G b' o').mine = false) : (w.setCells b off vs).cell? (mkA b' o') = w.cell? (mkA b' o') := by
  refine World.cell?_setCells_out b vs off w _ (fun e _ => ?_)
  simp only [mkA] at e ⊢
  subst e
  rcases Nat.lt_or_ge o' off with h1 | h1
  · exact .inl h1
  · rcases Nat.lt_or_ge o' (off + vs.length) with h2 | h2
    · have := h.mine (o' - off) (by omega)
      rw [show off + (o' - off) = o' by omega, hn] at this
      cases this
    · exact .inr h2
theorem Wr.out {b' o' : Nat} (hn : b' ≠ b ∨ o' < off ∨ off + vs.length ≤ o') : (w.setCells b off vs).cell? (mkA b' o') = w.cell? (mkA b' o') := by
  refine World.cell?_setCells_out b vs off w _ (fun e _ => ?_)
  simp only [mkA] at e ⊢
  exact hn.resolve_left (fun h => h e)
theorem Wr.at_ (h : Wr G w b off vs) (hw : WI G w) {q : Nat} (hq : q < vs.length) : (w.setCells b off vs).cell? (mkA b (off + q)) = some vs[q] :=
  World.cell?_setCells_in b vs off w (fun j hj => (hw.own _ _ (h.mine j hj)).1) q hq
theorem Wr.keeps (h : Wr G w b off vs) : Keeps G w G (w.setCells b off vs) := fun b' o' e => ⟨e, h.far (by rw [e]; rfl)⟩
theorem Wr.trans (h : Wr G w b off vs) : Trans G w G (w.setCells b off vs) where
  os := (setCells_fix b vs off w).1
  tape := (setCells_fix b vs off w).2.1
  output := (setCells_fix b vs off w).2.2.1
  size := Nat.le_of_eq (setCells_fix b vs off w).2.2.2.1.symm
  frz _ _ e := e
  ctx _ _ e := e
  cell b' o' e := ⟨h.far (by rcases e with e | e <;> rw [e] <;> rfl), World.frozen?_setCells ..⟩
  blk b' _ e := by
    by_cases hb : b' = b
    · subst hb
      cases vs with
      | nil => rfl
      | cons v r =>
        have := h.mine 0 (by simp)
        rcases e (off + 0) with e | e <;> rw [e] at this <;> cases this
    · exact (setCells_fix b vs off w).2.2.2.2 b' hb
  fz _ _ e1 e2 := absurd e2 e1
theorem Wr.wi (h : Wr G w b off vs) (hw : WI G w) : WI G (w.setCells b off vs) where
  own b' o' hm := by
    obtain ⟨h1, h2⟩ := hw.own b' o' hm
    refine ⟨?_, by rw [World.frozen?_setCells]; exact h2⟩
    by_cases hc : b' ≠ b ∨ o' < off ∨ off + vs.length ≤ o'
    · rw [Wr.out hc]; exact h1
    · have hb : b' = b := by omega
      subst hb
      have := h.at_ hw (q := o' - off) (by omega)
      rw [show off + (o' - off) = o' by omega] at this
      rw [this]; rfl
  old b' o' hb := hw.old b' o' (by rw [(setCells_fix b vs off w).2.2.2.1] at hb; exact hb)
  one b' o' v hm hc := by
    by_cases hq : b' ≠ b ∨ o' < off ∨ off + vs.length ≤ o'
    · rw [Wr.out hq] at hc; exact hw.one b' o' v hm hc
    · have hb : b' = b := by omega
      subst hb
      have := h.at_ hw (q := o' - off) (by omega)
      rw [show off + (o' - off) = o' by omega, hc] at this
      simp at this; subst this
      exact h.one _ (List.getElem_mem _)
  tab := hw.tab.trans h.trans
theorem Wr.frame (h : Wr G w b off vs) (hf : FR G w ρ fr tmps) : FR G (w.setCells b off vs) ρ fr tmps := fun i => ⟨(hf i).1.keep h.keeps, (hf i).2⟩

/-- the room of what was overwritten is nobody's -/
def clrT (id off m : Nat) : Own → Own
  | .spare i j => if i = id ∧ off ≤ j ∧ j < off + m then .free else .spare i j
  | x => x
theorem clrT_re (id off m : Nat) : ReTag (clrT id off m) := by
  constructor
  · intro x; cases x <;> simp [clrT]; split <;> simp
  · intro x; cases x <;> simp [clrT]; split <;> simp
  · rfl
  · intro x; cases x <;> simp [clrT, Own.mine]
def putCells (blk : List AV) (off : Nat) (xs : List AV) : List AV := blk.take off ++ (xs ++ blk.drop (off + xs.length))
theorem putCells_at (blk xs : List AV) (off j : Nat) (hl : off + xs.length ≤ blk.length) : (putCells blk off xs)[j]? = if off ≤ j ∧ j < off + xs.length then xs[j - off]? else blk[j]? := by
  unfold putCells
  rcases Nat.lt_or_ge j off with h | h
  · rw [List.getElem?_append_left (by simp; omega), List.getElem?_take, if_pos h, if_neg (by omega)]
  · rw [List.getElem?_append_right (by simp; omega)]
    have e : (blk.take off).length = off := by simp; omega
    rw [e]
    rcases Nat.lt_or_ge j (off + xs.length) with h2 | h2
    · rw [List.getElem?_append_left (by omega), if_pos ⟨h, h2⟩]
    · rw [List.getElem?_append_right (by omega), List.getElem?_drop, if_neg (by omega), show off + xs.length + (j - off - xs.length) = j by omega]
/-- a block's cells are written (what was owned there is lost) -/
theorem store_inv {id : Nat} {blk xs : List AV} (hi : Inv G w ρ n fr H tmps) (hr : ρ[id]? = some b) (hk : H[id]? = some blk) (hv : VRs G w ρ xs vs) (hc : xs.all isCell = true) (hs : ∀ x, x ∈ xs → ∀ G t v, Sp G t x v) (hl : off + xs.length ≤ blk.length) :
    Wr G w b off vs ∧ Inv (reG (clrT id off xs.length) G) (w.setCells b off vs) ρ n fr (H.set id (putCells blk off xs)) tmps := by
  have hlen := hv.1
  have hmine : ∀ q, q < vs.length → G b (off + q) = .cell id := fun q hq => by
    have hq2 : off + q < blk.length := by omega
    exact (hi.br.cell id b blk (off + q) blk[off + q] hr hk (List.getElem?_eq_getElem hq2)).1
  have hwr : Wr G w b off vs := ⟨fun q hq => by rw [hmine q hq]; rfl, hv.cell hc⟩
  have hkp : Keeps G w (reG (clrT id off xs.length) G) (w.setCells b off vs) := fun b' o' e => ⟨((clrT_re ..).frz _).2 e, (hwr.keeps b' o' e).2⟩
  refine ⟨hwr, hi.size, fun i => ⟨(hi.fr i).1.keep hkp, (hi.fr i).2.map fun c b o e => by unfold reG; rw [e]; rfl⟩, ⟨by rw [List.length_set]; exact hi.br.len, ?_⟩, (clrT_re ..).wi (hwr.wi hi.wi)⟩
  intro id' b' blk' j c h1 h2 h3
  rw [List.getElem?_set] at h2
  split at h2
  · rename_i hid
    subst hid
    rw [hr] at h1; simp at h1; subst h1
    split at h2
    · simp at h2; subst h2
      rw [putCells_at _ _ _ _ hl] at h3
      split at h3
      · rename_i hj
        have hjb : j < blk.length := by omega
        obtain ⟨e1, _⟩ := hi.br.cell id b blk j blk[j] hr hk (List.getElem?_eq_getElem hjb)
        have hjv : j - off < vs.length := by omega
        refine ⟨by unfold reG; rw [e1]; rfl, vs[j - off], ?_, (hv.2 _ c _ h3 (List.getElem?_eq_getElem hjv)).keep hkp, hs c (List.mem_of_getElem? h3) ..⟩
        have := hwr.at_ hi.wi hjv
        rwa [show off + (j - off) = j by omega] at this
      · rename_i hj
        obtain ⟨e1, v, e2, e3, e4⟩ := hi.br.cell id b blk j c hr hk h3
        refine ⟨by unfold reG; rw [e1]; rfl, v, by rw [Wr.out (by omega)]; exact e2, e3.keep hkp, e4.map fun b o e => ?_⟩
        unfold reG clrT
        rw [e]
        simp only
        rw [if_neg (by omega)]
    · simp at h2
  · rename_i hid
    obtain ⟨e1, v, e2, e3, e4⟩ := hi.br.cell id' b' blk' j c h1 h2 h3
    refine ⟨by unfold reG; rw [e1]; rfl, v, ?_, e3.keep hkp, e4.map fun b o e => ?_⟩
    · by_cases hq : b' ≠ b ∨ j < off ∨ off + vs.length ≤ j
      · rw [Wr.out hq]; exact e2
      · have hb : b' = b := by omega
        subst hb
        have := hmine (j - off) (by omega)
        rw [show off + (j - off) = j by omega, e1] at this
        simp at this
        exact absurd this.symm hid
    · unfold reG clrT
      rw [e]
      simp only
      rw [if_neg (by rintro ⟨h, _⟩; exact hid h.symm)]
theorem step_skip_sem {o : Oper} {fr1 : Fr} {H1 : Heap} (h : ∀ (a : Act) (w : World) (G : Gh) (ρ : List Nat) (n : Nat), Inv G w ρ n fr H a.tmps → ∃ w' G', (execOp a.eval o).run P w = .ok .skip w' ∧ Trans G w G' w' ∧ Inv G' w' ρ n fr1 H1 a.tmps) :
    OpSem P o fr H .bad fr1 H1 := by
  intro b a w G ρ n ops i rest k cs hoi hw hi
  obtain ⟨w', G', h1, h2, h3⟩ := h a w G ρ n hi
  exact ⟨undef, w', G', [], .one (step_skipV hoi hw h1), h2, by rw [List.append_nil]; exact ⟨h3, .bad .., by simp [SpV, Sp]⟩⟩
theorem run_storeAt {t : TypeId} {v : Value} (hz : szT P t = some v.cells.toList.length) (h : Wr G w b off v.cells.toList) (hw : WI G w) : (Instr.storeAt t (.pointer (some (mkA b off))) v).run P w = .ok () (w.setCells b off v.cells.toList) := by
  have := h.runs (P := P) hw
  simp only [Instr.storeAt, Instr.sureAddr, Sem.run_bind, Sem.run_pure, Result.andThen_ok, storeVar, run_sizeOf hz]
  simp only [Array.length_toList] at *
  simp [this]
theorem OpSem.store {o : Oper} {t : TypeId} {A X : Operand} {id off : Nat} {x : AV} {blk : List AV} (ho : o.op = .store t A X) (hA : opd P t fr A = .ptr id off) (hX : opd P t fr X = x)
    (hk : H[id]? = some blk) (h1 : notTB x = true) (h2 : x.cells.all isCell = true) (hz : szT P t = some x.cells.length) (hl : Nat.ble (off + x.cells.length) blk.length = true) :
    OpSem P o fr H .bad fr (H.set id (putCells blk off (x.cells.map un1))) := by
  refine step_skip_sem fun a w G ρ n hi => ?_
  have hv := VR.opd (P := P) (t := t) hi.fr X
  rw [hX] at hv
  have hp := VR.opd (P := P) (t := t) hi.fr A
  rw [hA] at hp
  obtain ⟨b, hr, hpe⟩ := hp.ptr_inv
  have hvs := hv.cells (notTB_ne h1).1 (notTB_ne h1).2
  have hl := Nat.le_of_ble_eq_true hl
  obtain ⟨hwr, hinv⟩ := store_inv hi hr hk hvs.un1 (by
    rw [List.all_eq_true] at h2 ⊢
    intro y hy
    obtain ⟨z, hz, rfl⟩ := List.mem_map.1 hy
    have := h2 z hz
    cases z <;> simp_all [Am.un1, isCell]) (fun y hy G t v => by obtain ⟨z, hz, rfl⟩ := List.mem_map.1 hy; exact Sp_un1 ..) (by simpa using hl)
  have hz2 : szT P t = some (a.eval X).cells.toList.length := by rw [hz, hvs.1]
  refine ⟨_, _, ?_, ?_, hinv⟩
  · have := run_storeAt (P := P) hz2 hwr hi.wi
    simp only [execOp, ho, hpe]
    simp [this]
  · exact (hwr.trans).trans ((clrT_re ..).trans _ _)
end Go.Am
