/- The abstract machine: new memory, ownership that moves. -/
import Derived.Test.YtnohmijdpmelpaaGreatAm11
set_option linter.unusedSectionVars false
set_option linter.unusedVariables false
set_option linter.unusedSimpArgs false
namespace Go.Am
open Go
variable [Tab]
variable {P : Program} {G : Gh} {w : World} {ρ : List Nat} {n : Nat} {fr : Fr} {H : Heap} {tmps : Array Value}

/-! ### 1. New names of owners -/
/-- 'f' moves what is owned, and nothing else -/
structure ReTag (f : Own → Own) : Prop where
  frz : ∀ x, f x = .frz ↔ x = .frz
  ctx : ∀ x, f x = .ctx ↔ x = .ctx
  free : f .free = .free
  mine : ∀ x, (f x).mine = true → x.mine = true
def reG (f : Own → Own) (G : Gh) : Gh := fun b o => f (G b o)
theorem ReTag.keeps {f} (h : ReTag f) (G : Gh) (w : World) : Keeps G w (reG f G) w := fun b o e => ⟨(h.frz _).2 e, rfl⟩
theorem ReTag.trans {f} (h : ReTag f) (G : Gh) (w : World) : Trans G w (reG f G) w :=
  ⟨rfl, rfl, rfl, Nat.le_refl _, fun _ _ e => (h.frz _).2 e, fun _ _ e => (h.ctx _).2 e, fun _ _ _ => ⟨rfl, rfl⟩, fun _ _ _ => rfl, fun _ _ e1 e2 => absurd ((h.frz _).1 e2) e1⟩
theorem ReTag.wi {f} (h : ReTag f) (k : WI G w) : WI (reG f G) w :=
  ⟨fun b o e => k.own b o (h.mine _ e), fun b o e => by unfold reG; rw [k.old b o e, h.free], fun b o v e => k.one b o v (e.imp (h.frz _).1 (h.mine _)), k.tab.trans (h.trans G w)⟩
theorem ReTag.br {f} (h : ReTag f) (hc : ∀ id, f (.cell id) = .cell id) (hs : ∀ id j, f (.spare id j) = .spare id j) (k : BR G w ρ H) : BR (reG f G) w ρ H :=
  ⟨k.len, fun id b blk j c h1 h2 h3 => by
    obtain ⟨e, v, h4, h5, h6⟩ := k.cell id b blk j c h1 h2 h3
    exact ⟨by unfold reG; rw [e, hc], v, h4, h5.keep (h.keeps _ _), h6.map fun b o e => by unfold reG; rw [e, hs]⟩⟩

/-- slot t's room is the pending value's -/
def takeT (t : Nat) : Own → Own
  | .slot i c => if i = t then .res c else .slot i c
  | x => x
theorem takeT_re (t : Nat) : ReTag (takeT t) := by
  constructor
  · intro x; cases x <;> simp [takeT]; split <;> simp
  · intro x; cases x <;> simp [takeT]; split <;> simp
  · rfl
  · intro x; cases x <;> simp [takeT, Own.mine]
theorem FR.take {t : Nat} {a : AV} (h : FR G w ρ fr tmps) (hv : ∀ v, VR G w ρ (fr t) v → VR G w ρ a v) (hs : ∀ G T v, SpV G T a v) : FR (reG (takeT t) G) w ρ (fr.set t a) tmps := by
  intro i
  have hi := h i
  unfold Fr.set
  cases hb : Nat.beq i t with
  | true =>
    have := Nat.eq_of_beq_eq_true hb
    subst this
    exact ⟨(hv _ hi.1).keep ((takeT_re i).keeps _ _), hs ..⟩
  | false =>
    have : i ≠ t := fun e => by rw [e, Nat.beq_refl] at hb; cases hb
    exact ⟨hi.1.keep ((takeT_re t).keeps _ _), hi.2.map fun c b o e => by unfold reG takeT; rw [e]; simp [this]⟩
theorem OpSem.take {o : Oper} {t : Nat} (ho : o.op = .move (.tmp t) ∨ o.op = .assign (.tmp t)) : OpSem P o fr H (fr t) (fr.set t (un (fr t))) H := by
  intro b a w G ρ n ops i rest k cs hoi hw hi
  have hr : (execOp a.eval o).run P w = .ok (.value (a.tmps.getD t undef)) w := by
    rcases ho with ho | ho <;> simp [execOp, ho, Act.eval]
  have ht := hi.fr t
  refine ⟨_, w, reG (takeT t) G, [], .one (step_value hoi hw hr), (takeT_re t).trans .., ?_⟩
  rw [List.append_nil]
  exact ⟨⟨hi.size, hi.fr.take (fun v h => h.un) (fun G T v => SpV_un ..), (takeT_re t).br (fun _ => rfl) (fun _ _ => rfl) hi.br, (takeT_re t).wi hi.wi⟩, ht.1.keep ((takeT_re t).keeps _ _), ht.2.map fun c b o e => by unfold reG takeT; rw [e]; simp⟩
/-- slot t's room number c is the pending value's -/
def takeC (t c : Nat) : Own → Own
  | .slot i d => if i = t ∧ d = c then .res 0 else .slot i d
  | x => x
theorem takeC_re (t c : Nat) : ReTag (takeC t c) := by
  constructor
  · intro x; cases x <;> simp [takeC]; split <;> simp
  · intro x; cases x <;> simp [takeC]; split <;> simp
  · rfl
  · intro x; cases x <;> simp [takeC, Own.mine]
theorem OpSem.takeX {o : Oper} {t j : Nat} {vs : List AV} {v : AV} (ho : o.op = .extract (.tmp t) j) (hf : fr t = .tup vs) (hj : vs[j]? = some v) (hv : ∀ ws, v ≠ .tup ws) :
    OpSem P o fr H v (fr.set t (.tup (vs.set j (un1 v)))) H := by
  intro b a w G ρ n ops i rest k cs hoi hw hi
  have ht := hi.fr t
  rw [hf] at ht
  obtain ⟨ws, e, hl, hvs⟩ := ht.1.tup_inv
  have hjl : j < ws.length := by rw [hl]; exact (List.getElem?_eq_some_iff.1 hj).1
  have hr : (execOp a.eval o).run P w = .ok (.value ws[j]) w := by
    simp [execOp, ho, Act.eval, Instr.extract, ← Array.getD_eq_getD_getElem?, e, hjl]
  have hsp : Sp G (.slot t j) v ws[j] := by
    have := ht.2
    rw [e] at this
    exact this j v ws[j] hj (by simp [hjl])
  refine ⟨_, w, reG (takeC t j) G, [], .one (step_value hoi hw hr), (takeC_re t j).trans .., ?_⟩
  rw [List.append_nil]
  have hk := (takeC_re t j).keeps G w
  refine ⟨⟨hi.size, ?_, (takeC_re t j).br (fun _ => rfl) (fun _ _ => rfl) hi.br, (takeC_re t j).wi hi.wi⟩, (hvs j v _ hj (List.getElem?_eq_getElem hjl)).keep hk, SpV_of_Sp ?_ hv⟩
  · intro i
    have hi := hi.fr i
    unfold Fr.set
    cases hb : Nat.beq i t with
    | true =>
      have := Nat.eq_of_beq_eq_true hb
      subst this
      rw [e]
      refine ⟨.tup _ _ _ (by simp [hl]) fun q c v' h1 h2 => ?_, fun c x y h1 h2 => ?_⟩
      · rw [List.getElem?_set] at h1
        split at h1
        · rename_i hq
          split at h1
          · simp at h1; subst h1; subst hq
            exact ((hvs j v _ hj h2).keep hk).un1
          · simp at h1
        · exact (hvs _ _ _ h1 h2).keep hk
      · rw [List.getElem?_set] at h1
        split at h1
        · split at h1
          · simp at h1; subst h1; exact Sp_un1 ..
          · simp at h1
        · rename_i hq
          have := ht.2
          rw [e] at this
          exact (this c x y h1 h2).map fun b o e => by unfold reG takeC; rw [e]; simp; exact fun h => hq h.symm
    | false =>
      have : i ≠ t := fun e => by rw [e, Nat.beq_refl] at hb; cases hb
      exact ⟨hi.1.keep hk, hi.2.map fun c b o e => by unfold reG takeC; rw [e]; simp [this]⟩
  · exact hsp.map fun b o e => by unfold reG takeC; rw [e]; simp

/-! ### 2. A new block -/
def allocG (G : Gh) (r m : Nat) (tag : Nat → Own) : Gh := fun b o => if b = r then (if o < m then tag o else .free) else G b o
theorem alloc_heap (w : World) (o : Obj) : (w.alloc o).heap = w.heap.push o := rfl
theorem cell_alloc_new (w : World) (cs : Array Value) (e : TypeId) (fz : Nat × Nat) (o : Nat) : (w.alloc (.cells cs e fz)).cell? (mkA w.heap.size o) = cs[o]? := by
  simp [World.cell?, mkA, alloc_heap]
theorem frozen_alloc_new (w : World) (cs : Array Value) (e : TypeId) (fz : Nat × Nat) (o : Nat) : (w.alloc (.cells cs e fz)).frozen? (mkA w.heap.size o) = (decide (fz.1 ≤ o) && decide (o < fz.2)) := by
  simp [World.frozen?, mkA, alloc_heap]
  rfl
theorem cell_alloc_old (w : World) (ob : Obj) {b : Nat} (h : b < w.heap.size) (o : Nat) : (w.alloc ob).cell? (mkA b o) = w.cell? (mkA b o) := by
  simp [World.cell?, alloc_heap, mkA, Array.getElem?_push, Nat.ne_of_lt h]
theorem frozen_alloc_old (w : World) (ob : Obj) {b : Nat} (h : b < w.heap.size) (o : Nat) : (w.alloc ob).frozen? (mkA b o) = w.frozen? (mkA b o) := by
  simp [World.frozen?, alloc_heap, mkA, Array.getElem?_push, Nat.ne_of_lt h]
theorem heap_alloc_lt (w : World) (ob : Obj) {b : Nat} (h : b < w.heap.size) : (w.alloc ob).heap[b]? = w.heap[b]? := by
  simp [alloc_heap, Array.getElem?_push, Nat.ne_of_lt h]
theorem WI.lt (h : WI G w) {b o : Nat} (hf : G b o ≠ .free) : b < w.heap.size := by
  rcases Nat.lt_or_ge b w.heap.size with h1 | h1
  · exact h1
  · exact absurd (h.old b o h1) hf
theorem alloc_keeps (h : WI G w) (ob : Obj) (m : Nat) (tag : Nat → Own) : Keeps G w (allocG G w.heap.size m tag) (w.alloc ob) := fun b o e => by
  have hb := h.lt (b := b) (o := o) (by rw [e]; simp)
  exact ⟨by unfold allocG; rw [if_neg (Nat.ne_of_lt hb)]; exact e, cell_alloc_old w ob hb o⟩
theorem alloc_trans (h : WI G w) (ob : Obj) (m : Nat) (tag : Nat → Own) (hz : ∀ o, o < m → tag o = .frz → (w.alloc ob).frozen? (mkA w.heap.size o) = false := by intro o _ _; rw [frozen_alloc_new]; simp) : Trans G w (allocG G w.heap.size m tag) (w.alloc ob) where
  os := rfl
  tape := rfl
  output := rfl
  size := by simp [alloc_heap]
  frz b o e := (alloc_keeps h ob m tag b o e).1
  ctx b o e := by
    have hb := h.lt (b := b) (o := o) (by rw [e]; simp)
    unfold allocG; rw [if_neg (Nat.ne_of_lt hb)]; exact e
  cell b o e := by
    have hb := h.lt (b := b) (o := o) (by rcases e with e | e <;> rw [e] <;> simp)
    exact ⟨cell_alloc_old w ob hb o, frozen_alloc_old w ob hb o⟩
  blk b hb _ := heap_alloc_lt w ob hb
  fz b o e1 e2 := by
    unfold allocG at e2
    split at e2
    · rename_i hb
      subst hb
      split at e2
      · rename_i ho; exact hz o ho e2
      · cases e2
    · exact absurd e2 e1
theorem alloc_old {r m : Nat} {tag : Nat → Own} {b o : Nat} {t : Own} (h : WI G w) (hr : r = w.heap.size) (e : G b o = t) (ht : t ≠ .free) : allocG G r m tag b o = t := by
  have hb := h.lt (b := b) (o := o) (by rw [e]; exact ht)
  unfold allocG; rw [if_neg (by omega)]; exact e
theorem alloc_wi (h : WI G w) (cs : Array Value) (e : TypeId) (tag : Nat → Own) (h1 : ∀ v, v ∈ cs.toList → v.oneCell' = true) (fz : Nat × Nat := (0, 0)) (hz : ∀ o, o < cs.size → (decide (fz.1 ≤ o) && decide (o < fz.2)) = false := by intros; simp) :
    WI (allocG G w.heap.size cs.size tag) (w.alloc (.cells cs e fz)) where
  own b o hm := by
    by_cases hb : b = w.heap.size
    · subst hb
      simp only [allocG, if_true] at hm
      split at hm
      · rename_i ho
        exact ⟨by rw [cell_alloc_new]; simpa using ho, by rw [frozen_alloc_new]; exact hz o ho⟩
      · simp [Own.mine] at hm
    · simp only [allocG, if_neg hb] at hm
      have hl := h.lt (b := b) (o := o) (by intro e; rw [e] at hm; simp [Own.mine] at hm)
      have := h.own b o hm
      rw [cell_alloc_old _ _ hl, frozen_alloc_old _ _ hl]; exact this
  old b o hb := by
    have hb2 : w.heap.size < b := by simp [alloc_heap] at hb; omega
    simp only [allocG, if_neg (Nat.ne_of_gt hb2)]
    exact h.old b o (Nat.le_of_lt hb2)
  one b o v hm hc := by
    by_cases hb : b = w.heap.size
    · subst hb
      rw [cell_alloc_new] at hc
      exact h1 v (by rw [Array.mem_toList_iff]; exact Array.mem_of_getElem? hc)
    · simp only [allocG, if_neg hb] at hm
      have hl := h.lt (b := b) (o := o) (by intro e; rw [e] at hm; simp [Own.mine] at hm)
      rw [cell_alloc_old _ _ hl] at hc
      exact h.one b o v hm hc
  tab := h.tab.trans (alloc_trans h _ _ tag (fun o ho _ => by rw [frozen_alloc_new]; exact hz o ho))
theorem alloc_fr (h : WI G w) (k : FR G w ρ fr tmps) (ob : Obj) (m : Nat) (tag : Nat → Own) (ρ2 : List Nat) : FR (allocG G w.heap.size m tag) (w.alloc ob) (ρ ++ ρ2) fr tmps := fun i =>
  ⟨((k i).1.keep (alloc_keeps h _ _ _)).app, (k i).2.map fun c b o e => alloc_old h rfl e (by simp)⟩
theorem alloc_br (h : WI G w) (k : BR G w ρ H) (ob : Obj) (m : Nat) (tag : Nat → Own) : BR (allocG G w.heap.size m tag) (w.alloc ob) ρ H :=
  ⟨k.len, fun id b blk j c h1 h2 h3 => by
    obtain ⟨e, v, h4, h5, h6⟩ := k.cell id b blk j c h1 h2 h3
    have hb := h.lt (b := b) (o := j) (by rw [e]; simp)
    exact ⟨alloc_old h rfl e (by simp), v, by rw [cell_alloc_old _ _ hb]; exact h4, h5.keep (alloc_keeps h _ _ _), h6.map fun b o e => alloc_old h rfl e (by simp)⟩⟩
end Go.Am
