/- The abstract machine: variables in memory. -/
import Derived.Test.YtnohmijdpmelpaaGreatAm12
set_option linter.unusedSectionVars false
set_option linter.unusedVariables false
set_option linter.unusedSimpArgs false
namespace Go.Am
open Go
variable [Tab]
variable {P : Program} {G : Gh} {w : World} {ρ : List Nat} {n : Nat} {fr : Fr} {H : Heap} {tmps : Array Value}

theorem alloc_vrs (h : WI G w) {cs : List AV} {vs : List Value} (k : VRs G w ρ cs vs) (ob : Obj) (m : Nat) (tag : Nat → Own) (ρ2 : List Nat) : VRs (allocG G w.heap.size m tag) (w.alloc ob) (ρ ++ ρ2) cs vs :=
  ⟨k.1, fun q c v h1 h2 => ((k.2 q c v h1 h2).keep (alloc_keeps h _ _ _)).app⟩
theorem newBlock {cs : List AV} {vs : List Value} {e : TypeId} (hi : Inv G w ρ n fr H tmps) (hv : VRs G w ρ cs vs) (h1 : ∀ v, v ∈ vs → v.oneCell' = true)
    (hs : ∀ (q : Nat) (c : AV) (v : Value), cs[q]? = some c → vs[q]? = some v → ∀ G t, Sp G t c v) :
    InvV (allocG G w.heap.size vs.length fun _ => .cell H.length) (w.alloc (.cells vs.toArray e)) (ρ ++ [w.heap.size]) n fr (H ++ [cs]) tmps (.ptr H.length 0) (.pointer (some (mkA w.heap.size 0))) := by
  have hw := hi.wi
  have hlen := hi.br.len
  refine ⟨⟨hi.size, alloc_fr hw hi.fr _ _ _ _, ⟨by simp [hlen], ?_⟩, ?_⟩, .ptr _ _ _ _ (by rw [hlen]; simp), by simp [SpV, Sp]⟩
  · intro id b blk j c k1 k2 k3
    rcases Nat.lt_or_ge id ρ.length with hid | hid
    · rw [List.getElem?_append_left hid] at k1
      rw [List.getElem?_append_left (by omega)] at k2
      obtain ⟨e1, v, e2, e3, e4⟩ := (alloc_br hw hi.br (.cells vs.toArray e) vs.length fun _ => .cell H.length).cell id b blk j c k1 k2 k3
      exact ⟨e1, v, e2, e3.app, e4⟩
    · rw [List.getElem?_append_right hid] at k1
      rw [List.getElem?_append_right (by omega)] at k2
      have e0 : id - ρ.length = 0 := by have := (List.getElem?_eq_some_iff.1 k1).1; simp at this; omega
      rw [e0] at k1
      rw [hlen, e0] at k2
      simp only [List.getElem?_cons_zero, Option.some.injEq] at k1 k2
      subst k1; subst k2
      have hj : j < vs.length := by rw [hv.1]; exact (List.getElem?_eq_some_iff.1 k3).1
      have hidh : id = H.length := by omega
      refine ⟨by simp [allocG, hj, hidh], vs[j], by rw [cell_alloc_new]; simp [hj], ?_, hs j c _ k3 (List.getElem?_eq_getElem hj) _ _⟩
      exact (alloc_vrs hw hv _ _ _ _).2 j c _ k3 (List.getElem?_eq_getElem hj)
  · have := alloc_wi (G := G) hw vs.toArray e (fun _ => .cell H.length) (by simpa using h1)
    simpa using this
/-- the types of a type's cells -/
def leafT (P : Program) : Nat → TypeId → List TypeId
  | 0, _ => []
  | d + 1, t => match P.underlying t with
    | some (.struct fs) => fs.toList.flatMap fun f => leafT P d f.type
    | some (.array m e) => (List.replicate m (leafT P d e)).flatten
    | _ => [t]
def ofVals (P : Program) : List TypeId → List Value → List AV
  | t :: ts, v :: vs => ofVal P t v :: ofVals P ts vs
  | _, _ => []
/-- the cells of a type's zero value -/
def zeroE (P : Program) (t : TypeId) : Option (List AV) :=
  match P.info? t with
  | some i => match i.zero with
    | some z => let ts := leafT P 20 t
      bif Nat.beq ts.length z.cells.toList.length && z.cells.toList.all (·.oneCell') && Nat.beq z.cells.size i.size then some (ofVals P ts z.cells.toList) else none
    | none => none
  | none => none
theorem ofVals_length (P : Program) : ∀ (ts : List TypeId) (vs : List Value), ts.length = vs.length → (ofVals P ts vs).length = vs.length
  | [], [], _ => rfl
  | t :: ts, v :: vs, h => by simp [ofVals, ofVals_length P ts vs (by simpa using h)]
theorem ofVals_at (P : Program) : ∀ (ts : List TypeId) (vs : List Value) (q : Nat) (c : AV) (v : Value), (ofVals P ts vs)[q]? = some c → vs[q]? = some v → ∃ t, c = ofVal P t v
  | [], vs, q, c, v, h, _ => by simp [ofVals] at h
  | t :: ts, [], q, c, v, h, _ => by simp [ofVals] at h
  | t :: ts, x :: vs, 0, c, v, h, h2 => by simp [ofVals] at h h2; subst h; subst h2; exact ⟨t, rfl⟩
  | t :: ts, x :: vs, q + 1, c, v, h, h2 => ofVals_at P ts vs q c v (by simpa [ofVals] using h) (by simpa using h2)
theorem Sp_ofVal (P : Program) (t : TypeId) (G : Gh) (T : Own) (v : Value) : Sp G T (ofVal P t v) v := by
  unfold Am.ofVal
  split <;> simp [Sp]
theorem zero_sound {t : TypeId} {cs : List AV} (h : zeroE P t = some cs) : ∃ (z : Value) (vs : List Value) (i : TypeInfo), P.info? t = some i ∧ i.zero = some z ∧ z.cells = vs.toArray ∧ i.size = vs.length ∧ (∀ v, v ∈ vs → v.oneCell' = true) ∧
    (∀ G w ρ, VRs G w ρ cs vs) ∧ (∀ (q : Nat) (c : AV) (v : Value), cs[q]? = some c → vs[q]? = some v → ∀ G t, Sp G t c v) := by
  unfold zeroE at h
  split at h
  · rename_i i hi
    split at h
    · rename_i z hz
      simp only [cond_eq_ite] at h
      split at h
      · rename_i hq
        simp only [Bool.and_eq_true, List.all_eq_true] at hq
        obtain ⟨⟨h1, h2⟩, h3⟩ := hq
        have h1 := Nat.eq_of_beq_eq_true h1
        have h3 := Nat.eq_of_beq_eq_true h3
        simp only [Option.some.injEq] at h
        subst h
        refine ⟨z, z.cells.toList, i, hi, hz, by simp, by simp [h3], h2, fun G w ρ => ⟨(ofVals_length P _ _ h1).symm, fun q c v e1 e2 => ?_⟩, fun q c v e1 e2 G T => ?_⟩
        · obtain ⟨t, rfl⟩ := ofVals_at P _ _ q c v e1 e2
          exact VR.ofVal ..
        · obtain ⟨t, rfl⟩ := ofVals_at P _ _ q c v e1 e2
          exact Sp_ofVal ..
      · simp at h
    · simp at h
  · simp at h
theorem OpSem.alloc {o : Oper} {t : TypeId} {cs : List AV} (ho : o.op = .alloc t) (hz : zeroE P t = some cs) : OpSem P o fr H (.ptr H.length 0) fr (H ++ [cs]) := by
  intro b a w G ρ n ops i rest k cs' hoi hw hi
  obtain ⟨z, vs, inf, h1, h2, h3, h4, h5, h6, h7⟩ := zero_sound hz
  have hr : (execOp a.eval o).run P w = .ok (.value (.pointer (some (mkA w.heap.size 0)))) (w.alloc (.cells vs.toArray t)) := by
    simp [execOp, ho, Instr.alloc, zeroValue, run_ti h1, h2, newVar, newRow, h3]; rfl
  exact ⟨_, _, _, [w.heap.size], .one (step_value hoi hw hr), alloc_trans hi.wi .., newBlock hi (h6 G w ρ) h5 h7⟩
/-- may it be one cell's value? -/
def isCell : AV → Bool
  | .agg _ => false
  | .tup _ => false
  | .bad => false
  | _ => true
theorem VR.cell {c : AV} {v : Value} (h : VR G w ρ c v) (hc : isCell c = true) : v.oneCell' = true := by
  cases h <;> first | rfl | (simp [isCell] at hc; done) | skip
  rename_i h
  cases h; rfl
theorem VR.cells {x : AV} {v : Value} (h : VR G w ρ x v) (hx : ∀ vs, x ≠ .tup vs) (hb : x ≠ .bad) : VRs G w ρ x.cells v.cells.toList := by
  by_cases hc : isCell x = true
  · have h1 := h.cell hc
    have e1 : x.cells = [x] := by cases x <;> first | rfl | simp [isCell] at hc
    have e2 : v.cells = #[v] := by cases v <;> first | rfl | simp [Value.oneCell'] at h1
    rw [e1, e2]
    exact ⟨rfl, fun q c v' h1 h2 => by
      have : q = 0 := by have := (List.getElem?_eq_some_iff.1 h1).1; simpa using this
      subst this
      simp at h1 h2; subst h1; subst h2; exact h⟩
  · cases x <;> first | (simp [isCell] at hc; done) | exact absurd rfl (hx _) | exact absurd rfl hb | skip
    obtain ⟨vs, rfl, hl, hv⟩ := h.agg_inv
    exact ⟨by simpa [AV.cells, Value.cells] using hl, by simpa [AV.cells, Value.cells] using hv⟩
theorem VRs.un1 {cs : List AV} {vs : List Value} (h : VRs G w ρ cs vs) : VRs G w ρ (cs.map un1) vs :=
  ⟨by simpa using h.1, fun q c v h1 h2 => by
    rw [List.getElem?_map, Option.map_eq_some_iff] at h1
    obtain ⟨x, h1, rfl⟩ := h1
    exact (h.2 q x v h1 h2).un1⟩
theorem VRs.cell {cs : List AV} {vs : List Value} (h : VRs G w ρ cs vs) (hc : cs.all isCell = true) : ∀ v, v ∈ vs → v.oneCell' = true := by
  intro v hv
  obtain ⟨q, hq, rfl⟩ := List.mem_iff_getElem.1 hv
  have hq2 : q < cs.length := by rw [← h.1]; exact hq
  have := h.2 q cs[q] vs[q] (List.getElem?_eq_getElem hq2) (List.getElem?_eq_getElem hq)
  exact this.cell ((List.all_eq_true.1 hc) _ (List.getElem_mem hq2))
def notTB : AV → Bool
  | .tup _ => false
  | .bad => false
  | _ => true
theorem notTB_ne {x : AV} (h : notTB x = true) : (∀ vs, x ≠ .tup vs) ∧ x ≠ .bad := by
  cases x <;> simp_all [notTB]
theorem OpSem.box {o : Oper} {t : TypeId} {x : Operand} {a : AV} (ho : o.op = .box t x) (ha : opd P t fr x = a) (h1 : notTB a = true) (h2 : a.cells.all isCell = true) :
    OpSem P o fr H (.ptr H.length 0) fr (H ++ [a.cells.map un1]) := by
  intro b act w G ρ n ops i rest k cs' hoi hw hi
  have hv := VR.opd (P := P) (t := t) hi.fr x
  rw [ha] at hv
  have hvs := hv.cells (notTB_ne h1).1 (notTB_ne h1).2
  have hr : (execOp act.eval o).run P w = .ok (.value (.pointer (some (mkA w.heap.size 0)))) (w.alloc (.cells (act.eval x).cells.toList.toArray t)) := by
    simp [execOp, ho, Instr.box, newVar, newRow]; rfl
  exact ⟨_, _, _, [w.heap.size], .one (step_value hoi hw hr), alloc_trans hi.wi .., newBlock hi hvs.un1 (hvs.cell h2) (fun q c v e1 e2 G T => by
    rw [List.getElem?_map, Option.map_eq_some_iff] at e1
    obtain ⟨y, _, rfl⟩ := e1
    exact Sp_un1 ..)⟩
end Go.Am
